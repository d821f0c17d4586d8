/- A tree's nodes: the document's Text. -/
import Derived.Test.YtaoejgnfoecpfaaDoorJk11
namespace Go.Proofs.YtaoejgnfoecpfaaDoor
set_option linter.unusedVariables false
set_option linter.unusedSimpArgs false
set_option linter.unusedSectionVars false
open Go.RowKit

/-- a node that fits, in plain numbers -/
theorem fit_nums {x : Nr} (h : fitN x = 0) : ∃ kk m t : Nat, x.kind = kk ∧ (kk = 1 ∨ kk = 2 ∨ kk = 3) ∧ x.mode = m ∧ m ≤ 511 ∧ x.time = t ∧ t ≤ 253402300799 ∧ x.at_.size ≤ 200 ∧ (kk = 2 → ∃ z : Nat, x.size = z ∧ z ≤ 32768 ∧ x.chunks.length ≤ z ∧ ∀ c ∈ x.chunks, c.size = 32) ∧ (kk = 3 → x.target.size ≤ 200) := by
  obtain ⟨h1, h2, h3⟩ := fit_parts h
  have h4 := path_size h2
  unfold kindOk at h1
  unfold formOk at h3
  simp only [Bool.and_eq_true, decide_eq_true_eq] at h1 h3
  obtain ⟨⟨⟨⟨⟨m1, m2⟩, t1⟩, t2⟩, h5⟩, h6⟩ := h3
  refine ⟨x.kind.toNat, x.mode.toNat, x.time.toNat, by omega, by omega, by omega, by omega, by omega, by omega, h4, fun hk => ?_, fun hk => ?_⟩
  · rw [show x.kind = 2 by omega] at h6
    simp only [decide_true, Bool.not_true, Bool.false_or] at h6
    unfold fileOk at h6
    simp only [Bool.and_eq_true, decide_eq_true_eq, List.all_eq_true] at h6
    obtain ⟨⟨⟨⟨z1, z2⟩, z3⟩, _⟩, z4⟩ := h6
    exact ⟨x.size.toNat, by omega, by omega, by omega, z4⟩
  · rw [show x.kind = 3 by omega] at h5
    simp only [decide_true, Bool.not_true, Bool.false_or] at h5
    unfold tgt at h5
    simp only [Bool.and_eq_true, decide_eq_true_eq] at h5
    omega
theorem body_snoc (l : List Nr) (k : Nat) (h : k < l.length) : bodyN (l.take (k + 1)) = bodyN (l.take k) ++ txtN l[k] := by
  unfold bodyN
  rw [List.take_succ_eq_append_getElem h, List.map_append, List.flatten_append]
  simp
theorem catN_snoc (l : List ByteArray) (k : Nat) (h : k < l.length) : catN (l.take (k + 1)) = catN (l.take k) ++ l[k].data.toList := by
  unfold catN
  rw [List.take_succ_eq_append_getElem h, List.map_append, List.flatten_append]
  simp
theorem varB_size (n : Nat) : (⟨(varL n).toArray⟩ : ByteArray).size ≤ 11 := by
  have := (varF_len 10 n).2
  show (varL n).toArray.size ≤ 11
  simpa [varL] using this
theorem rnum12_any (n : Nat) (w : World) (hn : n ≤ 9223372036854775807) : Calls Tryd.prog 75 #[.int .i64 n] w fun e w' => e = .returned (.string ⟨(varL n).toArray⟩) ∧ Below w.heap.size w w' := by
  have H1 := Lib.hid fun W => refvar_any n W (by omega)
  have hu : IntKind.u64.wrap (n : Int) = (n : Int) := IntWalk.u64_in _ (by omega)
  clear hn
  go_enter Tryd.func75, Tryd.ntmps75
  go_wp2_with fail
  refine (H1.out _).mono ?_
  rintro e w1 ⟨rfl, hb⟩
  go_wp2
  go_ret
  exact ⟨rfl, hb⟩
/-- a number's text -/
theorem rvar (n : Nat) (hn : n ≤ 9223372036854775807) : ∃ v : ByteArray, v.data.toList = varL n ∧ v.size ≤ 11 ∧ ∀ W, Calls Tryd.prog 75 #[.int .i64 n] W fun e w' => e = .returned (.string v) ∧ Below W.heap.size W w' :=
  ⟨⟨(varL n).toArray⟩, by simp, varB_size n, fun W => rnum12_any n W hn⟩
set_option maxRecDepth 100000 in
set_option maxHeartbeats 12800000 in
theorem ntext_any (l : List Nr) (A : Option Addr) (c : Nat) (w : World) (hn : RecsA w A l) (hf : ∀ x ∈ l, fitN x = 0) (hl : l.length ≤ 200) :
    Calls Tryd.prog 27 #[.slice A l.length c] w fun e w' => e = .returned (.string (bs (encN l))) ∧ Below w.heap.size w w' := by
  have HN := Lib.hid fun W (hb : Below w.heap.size w W) => hn.below hb
  have HF := Lib.hid hf
  obtain ⟨v0, e0, s0, H0⟩ := rvar l.length (by omega)
  have HV0 := Lib.hid H0
  have HE0 := Lib.hid e0
  clear hn hf H0 e0
  go_enter Tryd.func27, Tryd.ntmps27
  go_wp2_with fail
  refine (HV0.out _).mono ?_
  rintro e w1 ⟨rfl, hb1⟩
  have HB1 := Lib.hid hb1
  clear hb1
  go_wp2
  go_loopw [3, 13] (fun av i wr => ∃ (k : Nat) (acc : ByteArray), av = .string acc ∧ i = .int .i64 (k : Nat) ∧ k ≤ l.length ∧ acc.data.toList = varL l.length ++ bodyN (l.take k) ∧ acc.size ≤ 11 + 2000000 * k ∧ Below w.heap.size w wr) (fun _ i _ => l.length - (intOf i).toNat)
  case atStart => exact ⟨0, v0, rfl, rfl, Nat.zero_le _, by rw [HE0.out]; simp [bodyN], by omega, HB1.out⟩
  case round =>
    obtain ⟨k, acc, rfl, rfl, hk, hac, haz, hbel⟩ := hrel
    have HBL := Lib.hid hbel
    have HAC := Lib.hid hac
    clear hac
    by_cases hkl : k < l.length
    · obtain ⟨g, o, rfl, hg, hcc⟩ := HN.out wr hbel (by omega)
      obtain ⟨X, cx, hcx, hsx⟩ := hcc k l[k] (List.getElem?_eq_getElem hkl)
      have hfx0 := HF.out _ (List.getElem_mem hkl)
      have HSN := Lib.hid (body_snoc l k hkl)
      clear hcc hbel
      generalize l[k] = x at *
      obtain ⟨kind, a, mode, time, size, chunks, target⟩ := x
      obtain ⟨kk, m, t, hkd, hkk, hmd, hm, htd, ht, ha, h2, h3⟩ := fit_nums hfx0
      simp only at hkd hmd htd ha h2 h3
      subst hkd
      subst hmd
      subst htd
      clear hfx0
      have hkb : kk ≤ 3 := by rcases hkk with h | h | h <;> rw [h] <;> decide
      obtain ⟨v1, e1, s1, H1⟩ := rvar kk (Nat.le_trans hkb (by decide))
      obtain ⟨v2, e2, s2, H2⟩ := rvar a.size (Nat.le_trans ha (by decide))
      obtain ⟨v3, e3, s3, H3⟩ := rvar m (Nat.le_trans hm (by decide))
      obtain ⟨v4, e4, s4, H4⟩ := rvar t (Nat.le_trans ht (by decide))
      have HV1 := Lib.hid H1
      have HV2 := Lib.hid H2
      have HV3 := Lib.hid H3
      have HV4 := Lib.hid H4
      have HEX := Lib.hid (show txtN ⟨(kk : Int), a, (m : Int), (t : Int), size, chunks, target⟩ = (v1 ++ v2 ++ a ++ v3 ++ v4).data.toList ++ tailN ⟨(kk : Int), a, (m : Int), (t : Int), size, chunks, target⟩ by
        unfold txtN textL
        simp only [ByteArray.data_append, Array.toList_append, e1, e2, e3, e4, Int.toNat_natCast, List.append_assoc])
      have hzz : (v1 ++ v2 ++ a ++ v3 ++ v4).size ≤ 300 := by simp only [ByteArray.size_append]; omega
      clear H1 H2 H3 H4 e1 e2 e3 e4
      have q0 : wr.cell? ⟨g, o + k * 7, none⟩ = some (.int .i64 kk) := hcx 0 _ rfl
      have q1 : wr.cell? ⟨g, o + k * 7 + 1, none⟩ = some (.string a) := hcx 1 _ rfl
      have q2 : wr.cell? ⟨g, o + k * 7 + 2, none⟩ = some (.int .i64 m) := hcx 2 _ rfl
      have q3 : wr.cell? ⟨g, o + k * 7 + 3, none⟩ = some (.int .i64 t) := hcx 3 _ rfl
      have q4 : wr.cell? ⟨g, o + k * 7 + 4, none⟩ = some (.int .i64 size) := hcx 4 _ rfl
      have q5 : wr.cell? ⟨g, o + k * 7 + 5, none⟩ = some (.slice X chunks.length cx) := hcx 5 _ rfl
      have q6 : wr.cell? ⟨g, o + k * 7 + 6, none⟩ = some (.string target) := hcx 6 _ rfl
      have hk0 : (0 : Int) ≤ (k : Int) := by omega
      have hki : (k : Int) < (l.length : Int) := by omega
      have hk3 : ((k : Int)).toNat = k := by omega
      have HSX := Lib.hid hsx
      have HH2 := Lib.hid h2
      have HH3 := Lib.hid h3
      have HZZ := Lib.hid hzz
      have y1 := fun W => run_string_add_sum (P := Tryd.prog) W v1 v2 (by omega)
      have y2 := fun W => run_string_add_sum (P := Tryd.prog) W (v1 ++ v2) a (by simp only [ByteArray.size_append]; omega)
      have y3 := fun W => run_string_add_sum (P := Tryd.prog) W (v1 ++ v2 ++ a) v3 (by simp only [ByteArray.size_append]; omega)
      have y4 := fun W => run_string_add_sum (P := Tryd.prog) W (v1 ++ v2 ++ a ++ v3) v4 (by simp only [ByteArray.size_append]; omega)
      have y5 := fun W => run_string_add_sum (P := Tryd.prog) W acc (v1 ++ v2 ++ a ++ v3 ++ v4) (by omega)
      clear hcx hsx h2 h3
      obtain ⟨wo, rfl⟩ : ∃ wo : World, wo = wr := ⟨_, rfl⟩
      go_upto_region 5 with fail
      have hba := (Below.refl wo.heap.size wo).alloc (Nat.le_refl _) (.cells #[.int .i64 kk, .string a, .int .i64 m, .int .i64 t, .int .i64 size, .slice X chunks.length cx, .string target] 72)
      have HKA := Lib.hid (Blk.new wo 72 #[.int .i64 kk, .string a, .int .i64 m, .int .i64 t, .int .i64 size, .slice X chunks.length cx, .string target])
      have HBA := Lib.hid (HBL.out.trans (hba.mono HBL.out.size))
      have HSA := Lib.hid (HSX.out.below hba)
      clear q0 q1 q2 q3 q4 q5 q6 hba HSX
      generalize wo.alloc (.cells #[.int .i64 kk, .string a, .int .i64 m, .int .i64 t, .int .i64 size, .slice X chunks.length cx, .string target] 72) = wa at *
      have HCL := Lib.hid fun W (hW : Below wa.heap.size wa W) => (blk7' (HKA.out.below hW HKA.out.lt)).1
      refine wp_region_below (by kernel_rfl) (by kernel_rfl) ?_
      repeat
        first
          | go_big_quiet_skip
          | (go_big_quiet_want
             go_big_quiet_op
             first
               | go_big_quiet_on
               | (refine ⟨_, fun _ _ => rfl, ?_⟩; go_big_quiet_on)
               | (apply Exists.intro
                  refine ⟨fun W hW => ?_, ?_⟩
                  first
                    | (go_at_call 75; (with_reducible refine (HV1.out W).mono ?_); rintro e w8 ⟨rfl, hb8⟩; exact ⟨rfl, hW.trans (hb8.mono hW.size)⟩)
                    | (go_at_call 75; (with_reducible refine (HV2.out W).mono ?_); rintro e w8 ⟨rfl, hb8⟩; exact ⟨rfl, hW.trans (hb8.mono hW.size)⟩)
                    | (go_at_call 75; (with_reducible refine (HV3.out W).mono ?_); rintro e w8 ⟨rfl, hb8⟩; exact ⟨rfl, hW.trans (hb8.mono hW.size)⟩)
                    | (go_at_call 75; (with_reducible refine (HV4.out W).mono ?_); rintro e w8 ⟨rfl, hb8⟩; exact ⟨rfl, hW.trans (hb8.mono hW.size)⟩)
                    | (obtain ⟨c0, c1, c2, c3, c4, c5, c6⟩ := HCL.out W hW; go_simp; done)
                    | (obtain ⟨c0, c1, c2, c3, c4, c5, c6⟩ := HCL.out W hW; go_simp; rfl)
                  go_big_quiet_on))
      refine wpQuiet_nil ?_
      intro w2 hb2
      have HK2 := Lib.hid (HKA.out.below hb2 HKA.out.lt)
      have HB2 := Lib.hid (HBA.out.trans (hb2.mono HBA.out.size))
      have HS2 := Lib.hid (HSA.out.below hb2)
      have hzz2 := HZZ.out
      clear hb2 y1 y2 y3 y4 y5 HCL
      generalize v1 ++ v2 ++ a ++ v3 ++ v4 = hd at *
      have hac2 : (acc ++ hd).data.toList = varL l.length ++ bodyN (l.take k) ++ hd.data.toList := by rw [ByteArray.data_append, Array.toList_append, HAC.out]
      have haz2 : (acc ++ hd).size ≤ 311 + 2000000 * k := by rw [ByteArray.size_append]; omega
      have HAC2 := Lib.hid hac2
      clear hac2
      generalize acc ++ hd = ac2 at *
      obtain ⟨⟨c0, c1, c2, c3, c4, c5, c6⟩, _⟩ := blk7' HK2.out
      rcases hkk with rfl | rfl | rfl
      · have HT := Lib.hid HEX.out
        rw [tailN_1 rfl, List.append_nil] at HT
        clear HH2 HH3
        go_wp2
        go_roundw
        case rel => exact ⟨k + 1, ac2, rfl, by go_num, by omega, by rw [HSN.out, HT.out, HAC2.out, List.append_assoc], by omega, HB2.out⟩
        case measure => simp [intOf]; omega
      · obtain ⟨z, rfl, hz, hcz, h32⟩ := HH2.out rfl
        have HT := Lib.hid HEX.out
        rw [tailN_2 rfl] at HT
        have H32 := Lib.hid h32
        obtain ⟨v5, e5, s5, H5⟩ := rvar z (by omega)
        obtain ⟨v6, e6, s6, H6⟩ := rvar chunks.length (by omega)
        have HV5 := Lib.hid H5
        have HV6 := Lib.hid H6
        have y1 := fun W => run_string_add_sum (P := Tryd.prog) W v5 v6 (by omega)
        have y2 := fun W => run_string_add_sum (P := Tryd.prog) W ac2 (v5 ++ v6) (by simp only [ByteArray.size_append]; omega)
        have HE56 := Lib.hid (show (v5 ++ v6).data.toList = varL z ++ varL chunks.length by rw [ByteArray.data_append, Array.toList_append, e5, e6])
        have hz56 : (v5 ++ v6).size ≤ 22 := by rw [ByteArray.size_append]; omega
        have HZ56 := Lib.hid hz56
        have HCZ := Lib.hid (And.intro hz hcz)
        clear H5 H6 e5 e6 h32 HH2 HH3
        go_upto_region 7 with fail
        have HCL := Lib.hid fun W (hW : Below w2.heap.size w2 W) => (blk7' (HK2.out.below hW HK2.out.lt)).1
        clear c0 c1 c2 c3 c4 c5 c6
        refine wp_region_below (by kernel_rfl) (by kernel_rfl) ?_
        repeat
          first
            | go_big_quiet_skip
            | (go_big_quiet_want
               go_big_quiet_op
               first
                 | go_big_quiet_on
                 | (refine ⟨_, fun _ _ => rfl, ?_⟩; go_big_quiet_on)
                 | (apply Exists.intro
                    refine ⟨fun W hW => ?_, ?_⟩
                    first
                      | (go_at_call 75; (with_reducible refine (HV5.out W).mono ?_); rintro e w8 ⟨rfl, hb8⟩; exact ⟨rfl, hW.trans (hb8.mono hW.size)⟩)
                      | (go_at_call 75; (with_reducible refine (HV6.out W).mono ?_); rintro e w8 ⟨rfl, hb8⟩; exact ⟨rfl, hW.trans (hb8.mono hW.size)⟩)
                      | (obtain ⟨c0, c1, c2, c3, c4, c5, c6⟩ := HCL.out W hW; go_simp; done)
                      | (obtain ⟨c0, c1, c2, c3, c4, c5, c6⟩ := HCL.out W hW; go_simp; rfl)
                    go_big_quiet_on))
        refine wpQuiet_nil ?_
        intro w3 hb3
        have HK3 := Lib.hid (HK2.out.below hb3 HK2.out.lt)
        have HB3 := Lib.hid (HB2.out.trans (hb3.mono HB2.out.size))
        have HS3 := Lib.hid (HS2.out.below hb3)
        have hac3 : (ac2 ++ (v5 ++ v6)).data.toList = varL l.length ++ bodyN (l.take k) ++ hd.data.toList ++ (varL z ++ varL chunks.length) := by rw [ByteArray.data_append, Array.toList_append, HAC2.out, HE56.out]
        have haz3 : (ac2 ++ (v5 ++ v6)).size ≤ 333 + 2000000 * k := by have := HZ56.out; rw [ByteArray.size_append]; omega
        have HAC3 := Lib.hid hac3
        clear hb3 y1 y2 HCL hac3
        generalize ac2 ++ (v5 ++ v6) = ac3 at *
        obtain ⟨⟨c0, c1, c2, c3, c4, c5, c6⟩, _⟩ := blk7' HK3.out
        go_wp2
        go_loop [3, 7, 54] (fun av _ i => ∃ (j : Nat) (ac : ByteArray), av = .string ac ∧ i = .int .i64 j ∧ j ≤ chunks.length ∧ ac.data.toList = varL l.length ++ bodyN (l.take k) ++ hd.data.toList ++ (varL z ++ varL chunks.length) ++ catN (chunks.take j) ∧ ac.size ≤ 333 + 2000000 * k + 32 * j) (fun _ _ i => chunks.length - (intOf i).toNat)
        case atStart => exact ⟨0, ac3, rfl, rfl, Nat.zero_le _, by rw [HAC3.out]; simp [catN], by omega⟩
        case round =>
          obtain ⟨j, ac, rfl, rfl, hj, haj, hjz⟩ := hrel
          have HAJ := Lib.hid haj
          clear haj
          by_cases hjl : j < chunks.length
          · obtain ⟨bk, ok, rfl, hbk, hcc⟩ := HS3.out (by show 0 < chunks.length; omega)
            have hck := hcc j chunks[j] (List.getElem?_eq_getElem hjl)
            have HCS := Lib.hid (catN_snoc chunks j hjl)
            have hcz := H32.out chunks[j] (List.getElem_mem hjl)
            have hcz2 := HCZ.out
            clear hcc
            generalize chunks[j] = ch at *
            have y1 := fun W => run_string_add_sum (P := Tryd.prog) W ac ch (by omega)
            go_wp2
            go_round
            case rel => exact ⟨j + 1, ac ++ ch, rfl, by go_num, by omega, by rw [HCS.out, ByteArray.data_append, Array.toList_append, HAJ.out, List.append_assoc (varL l.length ++ bodyN (l.take k) ++ hd.data.toList ++ (varL z ++ varL chunks.length))], by rw [ByteArray.size_append]; omega⟩
            case measure => simp [intOf]; omega
          · have hje : j = chunks.length := by omega
            have hcz2 := HCZ.out
            have HJ := Lib.hid (show ac.data.toList = varL l.length ++ bodyN (l.take (k + 1)) by
              rw [HSN.out, HT.out, HAJ.out, hje, List.take_length]
              simp only [List.append_assoc, Int.toNat_natCast])
            clear hje
            go_wp2
            go_roundw
            case rel => exact ⟨k + 1, ac, rfl, by go_num, by omega, HJ.out, by omega, HB3.out⟩
            case measure => simp [intOf]; omega
      · have htg := HH3.out rfl
        have HT := Lib.hid HEX.out
        rw [tailN_3 rfl] at HT
        obtain ⟨v5, e5, s5, H5⟩ := rvar target.size (by omega)
        have HV5 := Lib.hid H5
        have y1 := fun W => run_string_add_sum (P := Tryd.prog) W v5 target (by omega)
        have y2 := fun W => run_string_add_sum (P := Tryd.prog) W ac2 (v5 ++ target) (by simp only [ByteArray.size_append]; omega)
        have HE56 := Lib.hid (show (v5 ++ target).data.toList = textL target by rw [ByteArray.data_append, Array.toList_append, e5]; rfl)
        have hz56 : (v5 ++ target).size ≤ 211 := by rw [ByteArray.size_append]; omega
        have HZ56 := Lib.hid hz56
        clear H5 e5 HH2 HH3
        go_upto_region 14 with fail
        have HCL := Lib.hid fun W (hW : Below w2.heap.size w2 W) => (blk7' (HK2.out.below hW HK2.out.lt)).1
        clear c0 c1 c2 c3 c4 c5 c6
        refine wp_region_below (by kernel_rfl) (by kernel_rfl) ?_
        repeat
          first
            | go_big_quiet_skip
            | (go_big_quiet_want
               go_big_quiet_op
               first
                 | go_big_quiet_on
                 | (refine ⟨_, fun _ _ => rfl, ?_⟩; go_big_quiet_on)
                 | (apply Exists.intro
                    refine ⟨fun W hW => ?_, ?_⟩
                    first
                      | (go_at_call 75; (with_reducible refine (HV5.out W).mono ?_); rintro e w8 ⟨rfl, hb8⟩; exact ⟨rfl, hW.trans (hb8.mono hW.size)⟩)
                      | (obtain ⟨c0, c1, c2, c3, c4, c5, c6⟩ := HCL.out W hW; go_simp; done)
                      | (obtain ⟨c0, c1, c2, c3, c4, c5, c6⟩ := HCL.out W hW; go_simp; rfl)
                    go_big_quiet_on))
        refine wpQuiet_nil ?_
        intro w3 hb3
        have HB3 := Lib.hid (HB2.out.trans (hb3.mono HB2.out.size))
        have haz3 : (ac2 ++ (v5 ++ target)).size ≤ 522 + 2000000 * k := by have := HZ56.out; rw [ByteArray.size_append]; omega
        have HJ := Lib.hid (show (ac2 ++ (v5 ++ target)).data.toList = varL l.length ++ bodyN (l.take (k + 1)) by rw [ByteArray.data_append, Array.toList_append, HAC2.out, HE56.out, HSN.out, HT.out]; simp only [List.append_assoc])
        clear hb3 y1 y2 HCL
        generalize ac2 ++ (v5 ++ target) = ac3 at *
        go_wp2
        go_roundw
        case rel => exact ⟨k + 1, ac3, rfl, by go_num, by omega, HJ.out, by omega, HB3.out⟩
        case measure => simp [intOf]; omega
    · obtain rfl : k = l.length := by omega
      have HX := Lib.hid (show acc = bs (encN l) by
        apply ba_inj
        rw [bs_list, HAC.out, List.take_length]
        rfl)
      go_wp2
      go_ret
      exact ⟨ret_str HX.out, HBL.out⟩
end Go.Proofs.YtaoejgnfoecpfaaDoor
