/- A tree's nodes: the document's Text. A row of bytes that '[]byte(s)' made (its block bears a mark behind its end), and what is appended to it. A tree's nodes: the program's number and text; Encode. A tree's nodes: Encode. A tree's nodes: the records of a row of nodes. A tree's nodes: awake of layer 12, and Few. A tree's nodes: the program's node of a record. A tree's nodes: the program's nodes of records. A tree's nodes: records that came in, as nodes of pure records. NodeUnlike, walked. The document's check of nodes, of longer paths. Are two rows of texts the same?. The chunks of nodes, each once: the plain law, and node.Chunks. The chunks of nodes, as the document says it, walked. Rows of records that came in as arguments. Rows of records that came in as arguments of bounded bulk. NodeTexts: its walk. -/
import Derived.Test.YtaoejgnfoecpfaaDoorJt17
import Derived.Test.YtaoejgnfoecpfaaDoorJt9
import Derived.Lib.FrozenHead
import Derived.Test.YtaoejgnfoecpfaaDoorJt15
import Derived.Test.YtaoejgnfoecpfaaDoorJt22
import Derived.Test.YtaoejgnfoecpfaaDoorJt13
namespace Go.Proofs.YtaoejgnfoecpfaaDoor
set_option linter.unusedVariables false
set_option linter.unusedSimpArgs false
set_option linter.unusedSectionVars false
open Go.RowKit

/-- a node that fits, in plain numbers -/
theorem fit_nums {x : Nr} (h : fitN x = 0) : ∃ kk m t : Nat, x.kind = kk ∧ (kk = 1 ∨ kk = 2 ∨ kk = 3) ∧ x.mode = m ∧ m ≤ 511 ∧ x.time = t ∧ t ≤ 253402300799 ∧ x.at_.size ≤ 200 ∧ (kk = 2 → ∃ z : Nat, x.size = z ∧ z ≤ 32768 ∧ x.chunks.length ≤ z ∧ ∀ c ∈ x.chunks, c.size = 32) ∧ (kk = 3 → x.target.size ≤ 200) := by
  obtain ⟨h1, h2, h3⟩ := fit_parts h
  have h4 := path_size h2
  unfold kindOk at h1
  unfold formOk at h3
  simp only [Bool.and_eq_true, decide_eq_true_eq] at h1 h3
  obtain ⟨⟨⟨⟨⟨m1, m2⟩, t1⟩, t2⟩, h5⟩, h6⟩ := h3
  refine ⟨x.kind.toNat, x.mode.toNat, x.time.toNat, by omega, by omega, by omega, by omega, by omega, by omega, h4, fun hk => ?_, fun hk => ?_⟩
  · rw [show x.kind = 2 by omega] at h6
    simp only [decide_true, Bool.not_true, Bool.false_or] at h6
    unfold fileOk at h6
    simp only [Bool.and_eq_true, decide_eq_true_eq, List.all_eq_true] at h6
    obtain ⟨⟨⟨⟨z1, z2⟩, z3⟩, _⟩, z4⟩ := h6
    exact ⟨x.size.toNat, by omega, by omega, by omega, z4⟩
  · rw [show x.kind = 3 by omega] at h5
    simp only [decide_true, Bool.not_true, Bool.false_or] at h5
    unfold tgt at h5
    simp only [Bool.and_eq_true, decide_eq_true_eq] at h5
    omega
theorem body_snoc (l : List Nr) (k : Nat) (h : k < l.length) : bodyN (l.take (k + 1)) = bodyN (l.take k) ++ txtN l[k] := by
  unfold bodyN
  rw [List.take_succ_eq_append_getElem h, List.map_append, List.flatten_append]
  simp
theorem catN_snoc (l : List ByteArray) (k : Nat) (h : k < l.length) : catN (l.take (k + 1)) = catN (l.take k) ++ l[k].data.toList := by
  unfold catN
  rw [List.take_succ_eq_append_getElem h, List.map_append, List.flatten_append]
  simp
theorem varB_size (n : Nat) : (⟨(varL n).toArray⟩ : ByteArray).size ≤ 11 := by
  have := (varF_len 10 n).2
  show (varL n).toArray.size ≤ 11
  simpa [varL] using this
theorem rnum12_any (n : Nat) (w : World) (hn : n ≤ 9223372036854775807) : Calls Tryd.prog 75 #[.int .i64 n] w fun e w' => e = .returned (.string ⟨(varL n).toArray⟩) ∧ Below w.heap.size w w' := by
  have H1 := Lib.hid fun W => refvar_any n W (by omega)
  have hu : IntKind.u64.wrap (n : Int) = (n : Int) := IntWalk.u64_in _ (by omega)
  clear hn
  go_enter Tryd.func75, Tryd.ntmps75
  go_wp2_with fail
  refine (H1.out _).mono ?_
  rintro e w1 ⟨rfl, hb⟩
  go_wp2
  go_ret
  exact ⟨rfl, hb⟩
/-- a number's text -/
theorem rvar (n : Nat) (hn : n ≤ 9223372036854775807) : ∃ v : ByteArray, v.data.toList = varL n ∧ v.size ≤ 11 ∧ ∀ W, Calls Tryd.prog 75 #[.int .i64 n] W fun e w' => e = .returned (.string v) ∧ Below W.heap.size W w' :=
  ⟨⟨(varL n).toArray⟩, by simp, varB_size n, fun W => rnum12_any n W hn⟩
set_option maxRecDepth 100000 in
set_option maxHeartbeats 12800000 in
theorem ntext_any (l : List Nr) (A : Option Addr) (c : Nat) (w : World) (hn : RecsA w A l) (hf : ∀ x ∈ l, fitN x = 0) (hl : l.length ≤ 200) :
    Calls Tryd.prog 27 #[.slice A l.length c] w fun e w' => e = .returned (.string (bs (encN l))) ∧ Below w.heap.size w w' := by
  have HN := Lib.hid fun W (hb : Below w.heap.size w W) => hn.below hb
  have HF := Lib.hid hf
  obtain ⟨v0, e0, s0, H0⟩ := rvar l.length (by omega)
  have HV0 := Lib.hid H0
  have HE0 := Lib.hid e0
  clear hn hf H0 e0
  go_enter Tryd.func27, Tryd.ntmps27
  go_wp2_with fail
  refine (HV0.out _).mono ?_
  rintro e w1 ⟨rfl, hb1⟩
  have HB1 := Lib.hid hb1
  clear hb1
  go_wp2
  go_loopw [3, 13] (fun av i wr => ∃ (k : Nat) (acc : ByteArray), av = .string acc ∧ i = .int .i64 (k : Nat) ∧ k ≤ l.length ∧ acc.data.toList = varL l.length ++ bodyN (l.take k) ∧ acc.size ≤ 11 + 2000000 * k ∧ Below w.heap.size w wr) (fun _ i _ => l.length - (intOf i).toNat)
  case atStart => exact ⟨0, v0, rfl, rfl, Nat.zero_le _, by rw [HE0.out]; simp [bodyN], by omega, HB1.out⟩
  case round =>
    obtain ⟨k, acc, rfl, rfl, hk, hac, haz, hbel⟩ := hrel
    have HBL := Lib.hid hbel
    have HAC := Lib.hid hac
    clear hac
    by_cases hkl : k < l.length
    · obtain ⟨g, o, rfl, hg, hcc⟩ := HN.out wr hbel (by omega)
      obtain ⟨X, cx, hcx, hsx⟩ := hcc k l[k] (List.getElem?_eq_getElem hkl)
      have hfx0 := HF.out _ (List.getElem_mem hkl)
      have HSN := Lib.hid (body_snoc l k hkl)
      clear hcc hbel
      generalize l[k] = x at *
      obtain ⟨kind, a, mode, time, size, chunks, target⟩ := x
      obtain ⟨kk, m, t, hkd, hkk, hmd, hm, htd, ht, ha, h2, h3⟩ := fit_nums hfx0
      simp only at hkd hmd htd ha h2 h3
      subst hkd
      subst hmd
      subst htd
      clear hfx0
      have hkb : kk ≤ 3 := by rcases hkk with h | h | h <;> rw [h] <;> decide
      obtain ⟨v1, e1, s1, H1⟩ := rvar kk (Nat.le_trans hkb (by decide))
      obtain ⟨v2, e2, s2, H2⟩ := rvar a.size (Nat.le_trans ha (by decide))
      obtain ⟨v3, e3, s3, H3⟩ := rvar m (Nat.le_trans hm (by decide))
      obtain ⟨v4, e4, s4, H4⟩ := rvar t (Nat.le_trans ht (by decide))
      have HV1 := Lib.hid H1
      have HV2 := Lib.hid H2
      have HV3 := Lib.hid H3
      have HV4 := Lib.hid H4
      have HEX := Lib.hid (show txtN ⟨(kk : Int), a, (m : Int), (t : Int), size, chunks, target⟩ = (v1 ++ v2 ++ a ++ v3 ++ v4).data.toList ++ tailN ⟨(kk : Int), a, (m : Int), (t : Int), size, chunks, target⟩ by
        unfold txtN textL
        simp only [ByteArray.data_append, Array.toList_append, e1, e2, e3, e4, Int.toNat_natCast, List.append_assoc])
      have hzz : (v1 ++ v2 ++ a ++ v3 ++ v4).size ≤ 300 := by simp only [ByteArray.size_append]; omega
      clear H1 H2 H3 H4 e1 e2 e3 e4
      have q0 : wr.cell? ⟨g, o + k * 7, none⟩ = some (.int .i64 kk) := hcx 0 _ rfl
      have q1 : wr.cell? ⟨g, o + k * 7 + 1, none⟩ = some (.string a) := hcx 1 _ rfl
      have q2 : wr.cell? ⟨g, o + k * 7 + 2, none⟩ = some (.int .i64 m) := hcx 2 _ rfl
      have q3 : wr.cell? ⟨g, o + k * 7 + 3, none⟩ = some (.int .i64 t) := hcx 3 _ rfl
      have q4 : wr.cell? ⟨g, o + k * 7 + 4, none⟩ = some (.int .i64 size) := hcx 4 _ rfl
      have q5 : wr.cell? ⟨g, o + k * 7 + 5, none⟩ = some (.slice X chunks.length cx) := hcx 5 _ rfl
      have q6 : wr.cell? ⟨g, o + k * 7 + 6, none⟩ = some (.string target) := hcx 6 _ rfl
      have hk0 : (0 : Int) ≤ (k : Int) := by omega
      have hki : (k : Int) < (l.length : Int) := by omega
      have hk3 : ((k : Int)).toNat = k := by omega
      have HSX := Lib.hid hsx
      have HH2 := Lib.hid h2
      have HH3 := Lib.hid h3
      have HZZ := Lib.hid hzz
      have y1 := fun W => run_string_add_sum (P := Tryd.prog) W v1 v2 (by omega)
      have y2 := fun W => run_string_add_sum (P := Tryd.prog) W (v1 ++ v2) a (by simp only [ByteArray.size_append]; omega)
      have y3 := fun W => run_string_add_sum (P := Tryd.prog) W (v1 ++ v2 ++ a) v3 (by simp only [ByteArray.size_append]; omega)
      have y4 := fun W => run_string_add_sum (P := Tryd.prog) W (v1 ++ v2 ++ a ++ v3) v4 (by simp only [ByteArray.size_append]; omega)
      have y5 := fun W => run_string_add_sum (P := Tryd.prog) W acc (v1 ++ v2 ++ a ++ v3 ++ v4) (by omega)
      clear hcx hsx h2 h3
      obtain ⟨wo, rfl⟩ : ∃ wo : World, wo = wr := ⟨_, rfl⟩
      go_upto_region 5 with fail
      have hba := (Below.refl wo.heap.size wo).alloc (Nat.le_refl _) (.cells #[.int .i64 kk, .string a, .int .i64 m, .int .i64 t, .int .i64 size, .slice X chunks.length cx, .string target] 72)
      have HKA := Lib.hid (Blk.new wo 72 #[.int .i64 kk, .string a, .int .i64 m, .int .i64 t, .int .i64 size, .slice X chunks.length cx, .string target])
      have HBA := Lib.hid (HBL.out.trans (hba.mono HBL.out.size))
      have HSA := Lib.hid (HSX.out.below hba)
      clear q0 q1 q2 q3 q4 q5 q6 hba HSX
      generalize wo.alloc (.cells #[.int .i64 kk, .string a, .int .i64 m, .int .i64 t, .int .i64 size, .slice X chunks.length cx, .string target] 72) = wa at *
      have HCL := Lib.hid fun W (hW : Below wa.heap.size wa W) => (blk7' (HKA.out.below hW HKA.out.lt)).1
      refine wp_region_below (by kernel_rfl) (by kernel_rfl) ?_
      repeat
        first
          | go_big_quiet_skip
          | (go_big_quiet_want
             go_big_quiet_op
             first
               | go_big_quiet_on
               | (refine ⟨_, fun _ _ => rfl, ?_⟩; go_big_quiet_on)
               | (apply Exists.intro
                  refine ⟨fun W hW => ?_, ?_⟩
                  first
                    | (go_at_call 75; (with_reducible refine (HV1.out W).mono ?_); rintro e w8 ⟨rfl, hb8⟩; exact ⟨rfl, hW.trans (hb8.mono hW.size)⟩)
                    | (go_at_call 75; (with_reducible refine (HV2.out W).mono ?_); rintro e w8 ⟨rfl, hb8⟩; exact ⟨rfl, hW.trans (hb8.mono hW.size)⟩)
                    | (go_at_call 75; (with_reducible refine (HV3.out W).mono ?_); rintro e w8 ⟨rfl, hb8⟩; exact ⟨rfl, hW.trans (hb8.mono hW.size)⟩)
                    | (go_at_call 75; (with_reducible refine (HV4.out W).mono ?_); rintro e w8 ⟨rfl, hb8⟩; exact ⟨rfl, hW.trans (hb8.mono hW.size)⟩)
                    | (obtain ⟨c0, c1, c2, c3, c4, c5, c6⟩ := HCL.out W hW; go_simp; done)
                    | (obtain ⟨c0, c1, c2, c3, c4, c5, c6⟩ := HCL.out W hW; go_simp; rfl)
                  go_big_quiet_on))
      refine wpQuiet_nil ?_
      intro w2 hb2
      have HK2 := Lib.hid (HKA.out.below hb2 HKA.out.lt)
      have HB2 := Lib.hid (HBA.out.trans (hb2.mono HBA.out.size))
      have HS2 := Lib.hid (HSA.out.below hb2)
      have hzz2 := HZZ.out
      clear hb2 y1 y2 y3 y4 y5 HCL
      generalize v1 ++ v2 ++ a ++ v3 ++ v4 = hd at *
      have hac2 : (acc ++ hd).data.toList = varL l.length ++ bodyN (l.take k) ++ hd.data.toList := by rw [ByteArray.data_append, Array.toList_append, HAC.out]
      have haz2 : (acc ++ hd).size ≤ 311 + 2000000 * k := by rw [ByteArray.size_append]; omega
      have HAC2 := Lib.hid hac2
      clear hac2
      generalize acc ++ hd = ac2 at *
      obtain ⟨⟨c0, c1, c2, c3, c4, c5, c6⟩, _⟩ := blk7' HK2.out
      rcases hkk with rfl | rfl | rfl
      · have HT := Lib.hid HEX.out
        rw [tailN_1 rfl, List.append_nil] at HT
        clear HH2 HH3
        go_wp2
        go_roundw
        case rel => exact ⟨k + 1, ac2, rfl, by go_num, by omega, by rw [HSN.out, HT.out, HAC2.out, List.append_assoc], by omega, HB2.out⟩
        case measure => simp [intOf]; omega
      · obtain ⟨z, rfl, hz, hcz, h32⟩ := HH2.out rfl
        have HT := Lib.hid HEX.out
        rw [tailN_2 rfl] at HT
        have H32 := Lib.hid h32
        obtain ⟨v5, e5, s5, H5⟩ := rvar z (by omega)
        obtain ⟨v6, e6, s6, H6⟩ := rvar chunks.length (by omega)
        have HV5 := Lib.hid H5
        have HV6 := Lib.hid H6
        have y1 := fun W => run_string_add_sum (P := Tryd.prog) W v5 v6 (by omega)
        have y2 := fun W => run_string_add_sum (P := Tryd.prog) W ac2 (v5 ++ v6) (by simp only [ByteArray.size_append]; omega)
        have HE56 := Lib.hid (show (v5 ++ v6).data.toList = varL z ++ varL chunks.length by rw [ByteArray.data_append, Array.toList_append, e5, e6])
        have hz56 : (v5 ++ v6).size ≤ 22 := by rw [ByteArray.size_append]; omega
        have HZ56 := Lib.hid hz56
        have HCZ := Lib.hid (And.intro hz hcz)
        clear H5 H6 e5 e6 h32 HH2 HH3
        go_upto_region 7 with fail
        have HCL := Lib.hid fun W (hW : Below w2.heap.size w2 W) => (blk7' (HK2.out.below hW HK2.out.lt)).1
        clear c0 c1 c2 c3 c4 c5 c6
        refine wp_region_below (by kernel_rfl) (by kernel_rfl) ?_
        repeat
          first
            | go_big_quiet_skip
            | (go_big_quiet_want
               go_big_quiet_op
               first
                 | go_big_quiet_on
                 | (refine ⟨_, fun _ _ => rfl, ?_⟩; go_big_quiet_on)
                 | (apply Exists.intro
                    refine ⟨fun W hW => ?_, ?_⟩
                    first
                      | (go_at_call 75; (with_reducible refine (HV5.out W).mono ?_); rintro e w8 ⟨rfl, hb8⟩; exact ⟨rfl, hW.trans (hb8.mono hW.size)⟩)
                      | (go_at_call 75; (with_reducible refine (HV6.out W).mono ?_); rintro e w8 ⟨rfl, hb8⟩; exact ⟨rfl, hW.trans (hb8.mono hW.size)⟩)
                      | (obtain ⟨c0, c1, c2, c3, c4, c5, c6⟩ := HCL.out W hW; go_simp; done)
                      | (obtain ⟨c0, c1, c2, c3, c4, c5, c6⟩ := HCL.out W hW; go_simp; rfl)
                    go_big_quiet_on))
        refine wpQuiet_nil ?_
        intro w3 hb3
        have HK3 := Lib.hid (HK2.out.below hb3 HK2.out.lt)
        have HB3 := Lib.hid (HB2.out.trans (hb3.mono HB2.out.size))
        have HS3 := Lib.hid (HS2.out.below hb3)
        have hac3 : (ac2 ++ (v5 ++ v6)).data.toList = varL l.length ++ bodyN (l.take k) ++ hd.data.toList ++ (varL z ++ varL chunks.length) := by rw [ByteArray.data_append, Array.toList_append, HAC2.out, HE56.out]
        have haz3 : (ac2 ++ (v5 ++ v6)).size ≤ 333 + 2000000 * k := by have := HZ56.out; rw [ByteArray.size_append]; omega
        have HAC3 := Lib.hid hac3
        clear hb3 y1 y2 HCL hac3
        generalize ac2 ++ (v5 ++ v6) = ac3 at *
        obtain ⟨⟨c0, c1, c2, c3, c4, c5, c6⟩, _⟩ := blk7' HK3.out
        go_wp2
        go_loop [3, 7, 54] (fun av _ i => ∃ (j : Nat) (ac : ByteArray), av = .string ac ∧ i = .int .i64 j ∧ j ≤ chunks.length ∧ ac.data.toList = varL l.length ++ bodyN (l.take k) ++ hd.data.toList ++ (varL z ++ varL chunks.length) ++ catN (chunks.take j) ∧ ac.size ≤ 333 + 2000000 * k + 32 * j) (fun _ _ i => chunks.length - (intOf i).toNat)
        case atStart => exact ⟨0, ac3, rfl, rfl, Nat.zero_le _, by rw [HAC3.out]; simp [catN], by omega⟩
        case round =>
          obtain ⟨j, ac, rfl, rfl, hj, haj, hjz⟩ := hrel
          have HAJ := Lib.hid haj
          clear haj
          by_cases hjl : j < chunks.length
          · obtain ⟨bk, ok, rfl, hbk, hcc⟩ := HS3.out (by show 0 < chunks.length; omega)
            have hck := hcc j chunks[j] (List.getElem?_eq_getElem hjl)
            have HCS := Lib.hid (catN_snoc chunks j hjl)
            have hcz := H32.out chunks[j] (List.getElem_mem hjl)
            have hcz2 := HCZ.out
            clear hcc
            generalize chunks[j] = ch at *
            have y1 := fun W => run_string_add_sum (P := Tryd.prog) W ac ch (by omega)
            go_wp2
            go_round
            case rel => exact ⟨j + 1, ac ++ ch, rfl, by go_num, by omega, by rw [HCS.out, ByteArray.data_append, Array.toList_append, HAJ.out, List.append_assoc (varL l.length ++ bodyN (l.take k) ++ hd.data.toList ++ (varL z ++ varL chunks.length))], by rw [ByteArray.size_append]; omega⟩
            case measure => simp [intOf]; omega
          · have hje : j = chunks.length := by omega
            have hcz2 := HCZ.out
            have HJ := Lib.hid (show ac.data.toList = varL l.length ++ bodyN (l.take (k + 1)) by
              rw [HSN.out, HT.out, HAJ.out, hje, List.take_length]
              simp only [List.append_assoc, Int.toNat_natCast])
            clear hje
            go_wp2
            go_roundw
            case rel => exact ⟨k + 1, ac, rfl, by go_num, by omega, HJ.out, by omega, HB3.out⟩
            case measure => simp [intOf]; omega
      · have htg := HH3.out rfl
        have HT := Lib.hid HEX.out
        rw [tailN_3 rfl] at HT
        obtain ⟨v5, e5, s5, H5⟩ := rvar target.size (by omega)
        have HV5 := Lib.hid H5
        have y1 := fun W => run_string_add_sum (P := Tryd.prog) W v5 target (by omega)
        have y2 := fun W => run_string_add_sum (P := Tryd.prog) W ac2 (v5 ++ target) (by simp only [ByteArray.size_append]; omega)
        have HE56 := Lib.hid (show (v5 ++ target).data.toList = textL target by rw [ByteArray.data_append, Array.toList_append, e5]; rfl)
        have hz56 : (v5 ++ target).size ≤ 211 := by rw [ByteArray.size_append]; omega
        have HZ56 := Lib.hid hz56
        clear H5 e5 HH2 HH3
        go_upto_region 14 with fail
        have HCL := Lib.hid fun W (hW : Below w2.heap.size w2 W) => (blk7' (HK2.out.below hW HK2.out.lt)).1
        clear c0 c1 c2 c3 c4 c5 c6
        refine wp_region_below (by kernel_rfl) (by kernel_rfl) ?_
        repeat
          first
            | go_big_quiet_skip
            | (go_big_quiet_want
               go_big_quiet_op
               first
                 | go_big_quiet_on
                 | (refine ⟨_, fun _ _ => rfl, ?_⟩; go_big_quiet_on)
                 | (apply Exists.intro
                    refine ⟨fun W hW => ?_, ?_⟩
                    first
                      | (go_at_call 75; (with_reducible refine (HV5.out W).mono ?_); rintro e w8 ⟨rfl, hb8⟩; exact ⟨rfl, hW.trans (hb8.mono hW.size)⟩)
                      | (obtain ⟨c0, c1, c2, c3, c4, c5, c6⟩ := HCL.out W hW; go_simp; done)
                      | (obtain ⟨c0, c1, c2, c3, c4, c5, c6⟩ := HCL.out W hW; go_simp; rfl)
                    go_big_quiet_on))
        refine wpQuiet_nil ?_
        intro w3 hb3
        have HB3 := Lib.hid (HB2.out.trans (hb3.mono HB2.out.size))
        have haz3 : (ac2 ++ (v5 ++ target)).size ≤ 522 + 2000000 * k := by have := HZ56.out; rw [ByteArray.size_append]; omega
        have HJ := Lib.hid (show (ac2 ++ (v5 ++ target)).data.toList = varL l.length ++ bodyN (l.take (k + 1)) by rw [ByteArray.data_append, Array.toList_append, HAC2.out, HE56.out, HSN.out, HT.out]; simp only [List.append_assoc])
        clear hb3 y1 y2 HCL
        generalize ac2 ++ (v5 ++ target) = ac3 at *
        go_wp2
        go_roundw
        case rel => exact ⟨k + 1, ac3, rfl, by go_num, by omega, HJ.out, by omega, HB3.out⟩
        case measure => simp [intOf]; omega
    · obtain rfl : k = l.length := by omega
      have HX := Lib.hid (show acc = bs (encN l) by
        apply ba_inj
        rw [bs_list, HAC.out, List.take_length]
        rfl)
      go_wp2
      go_ret
      exact ⟨ret_str HX.out, HBL.out⟩
end Go.Proofs.YtaoejgnfoecpfaaDoor
namespace Go.Proofs.YtaoejgnfoecpfaaDoor
set_option linter.unusedVariables false
set_option linter.unusedSimpArgs false
set_option linter.unusedSectionVars false
open Go.RowKit Go.Lib

/-- the call's own row of cells of one cell each; what of its block is frozen lies ahead of its end or behind its room -/
def ownsT (w : World) (base : Nat) (e : TypeId) (v : Value) (n : Nat) (xs : List Value) : Prop :=
  xs.length = n ∧
  ((v = .slice none 0 0 ∧ n = 0) ∨
   ∃ g cap cur fz, v = .slice (some ⟨g, 0, none⟩) n cap ∧ base ≤ g ∧ w.heap[g]? = some (.cells cur e fz) ∧ (fz.2 ≤ n ∨ cap ≤ fz.1) ∧ n ≤ cap ∧ cap ≤ maxLen ∧ cur.size = cap ∧ cur.toList.take n = xs)
section
variable {w : World} {base : Nat} {e : TypeId} {v : Value} {n : Nat} {xs : List Value}
theorem ownsT.lt (h : ownsT w base e v n xs) : ∀ k, v.ownBlock = some k → base ≤ k ∧ k < w.heap.size := by
  intro k hk
  rcases h.2 with ⟨rfl, _⟩ | ⟨g, cap, cur, fz, rfl, hb, hg, _⟩
  · simp [Value.ownBlock] at hk
  · simp [Value.ownBlock] at hk
    subst hk
    exact ⟨hb, (Array.getElem?_eq_some_iff.1 hg).1⟩
theorem ownsT.at_ {w' : World} (h : ownsT w base e v n xs) (he : ∀ k, v.ownBlock = some k → w'.heap[k]? = w.heap[k]?) : ownsT w' base e v n xs := by
  refine ⟨h.1, ?_⟩
  rcases h.2 with hn | ⟨g, cap, cur, fz, rfl, hb, hg, rest⟩
  · exact .inl hn
  · exact .inr ⟨g, cap, cur, fz, rfl, hb, (he g rfl).trans hg, rest⟩
theorem ownsT.below {w' : World} (h : ownsT w base e v n xs) (hb : Below w.heap.size w w') : ownsT w' base e v n xs := h.at_ fun k hk => hb.block k (h.lt k hk).2
theorem ownsT.cells (h : ownsT w base e v n xs) {g : Nat} (hg : v.ownBlock = some g) : ∀ j u, xs[j]? = some u → w.cell? ((⟨g, 0, none⟩ : Addr).add j) = some u := by
  intro j u hu
  rcases h.2 with ⟨rfl, _⟩ | ⟨g', cap, cur, fz, rfl, _, hgg, _, _, _, _, htake⟩
  · simp [Value.ownBlock] at hg
  · simp [Value.ownBlock] at hg
    subst hg
    have hadd : (⟨g', 0, none⟩ : Addr).add j = ⟨g', j, none⟩ := by unfold Addr.add; split <;> simp_all
    rw [hadd, cell_of_row w g' j cur e fz hgg]
    rw [← htake, List.getElem?_take] at hu
    split at hu
    · simpa using hu
    · cases hu
theorem ownsT.of (h : w.ownsRow base e 1 v n xs) : ownsT w base e v n xs := by
  refine ⟨by have := h.1; omega, ?_⟩
  rcases h.2 with hn | ⟨g, cap, cur, hv, hb, hg, h1, h2, h3, h4⟩
  · exact .inl hn
  · exact .inr ⟨g, cap, cur, (0, 0), hv, hb, hg, .inl (Nat.zero_le _), h1, h2, by rw [h3, Nat.mul_one], by rw [← h4, Nat.mul_one]⟩
end
theorem run_storeCells_atT (P : Program) (g o : Nat) (t : TypeId) (fz : Nat × Nat) : ∀ (vs : List Value) (i : Nat) (cur : Array Value) (w : World), w.heap[g]? = some (.cells cur t fz) → (fz.2 ≤ o + i ∨ cur.size ≤ fz.1) → o + i + vs.length ≤ cur.size → (∀ v ∈ vs, v.oneCell' = true) →
    (storeCells ⟨g, o, none⟩ vs i).run P w = .ok () (w.setRow g (cur.toList.take (o + i) ++ vs ++ cur.toList.drop (o + i + vs.length)).toArray)
  | [], i, cur, w, hg, _, _, _ => by
    simp only [storeCells, List.append_nil, List.length_nil, Nat.add_zero, List.take_append_drop, Array.toArray_toList]
    rw [setRow_self w g cur t fz hg]
    rfl
  | v :: rest, i, cur, w, hg, hfz, hl, h1 => by
    have hi : o + i < cur.size := by simp at hl; omega
    have hadd : (⟨g, o, none⟩ : Addr).add i = ⟨g, o + i, none⟩ := by unfold Addr.add; split <;> simp_all
    have hcell : w.cell? ⟨g, o + i, none⟩ = some cur[o + i] := by simp [World.cell?, hg, hi]
    have hfro : w.frozen? ⟨g, o + i, none⟩ = false := by
      obtain ⟨lo, hi'⟩ := fz
      simp only [World.frozen?, hg, Bool.and_eq_false_iff, decide_eq_false_iff_not]
      simp only at hfz
      omega
    have hst : (store ((⟨g, o, none⟩ : Addr).add i) v).run P w = .ok () (w.setRow g (cur.setIfInBounds (o + i) v)) := by
      rw [hadd, run_store P w _ v _ (h1 v (by simp)), hcell]
      simp [hfro, setCell_eq_setRow w g (o + i) cur t fz v hg]
    have ih := run_storeCells_atT P g o t fz rest (i + 1) (cur.setIfInBounds (o + i) v) (w.setRow g (cur.setIfInBounds (o + i) v)) (setRow_heap w g cur _ t _ hg) (by simp; omega) (by simp at hl ⊢; omega) (fun x hx => h1 x (by simp [hx]))
    simp only [storeCells, Sem.run_bind, hst, Result.andThen_ok, ih, setRow_setRow]
    congr 3
    have e := list_seg_step cur.toList (o + i) v rest (by simp at hl ⊢; omega)
    simpa [Array.toList_setIfInBounds, Nat.add_assoc] using e
section
variable {P : Program} {w : World}
/-- append(v, s...) of a text -/
theorem run_append_T (base : Nat) (t u ty e : TypeId) (i : TypeInfo) (ht : P.underlying t = some (.slice e)) (hu : P.underlying u = some .string) (hi : P.info? e = some i) (hz : i.zero = some (.int .u8 0))
    (hsize : i.size = 1) (hby : i.bytes = 1)
    (v : Value) (n : Nat) (xs : List Value) (hown : ownsT w base e v n xs) (s : ByteArray)
    (hbytes : n + s.size ≤ 140737488355328) (hbase : base ≤ w.heap.size) :
    ∃ v' w', (Builtin.append_ #[t, u] ty #[v, .string s]).run P w = .ok v' w' ∧ ownsT w' base e v' (n + s.size) (xs ++ strCells s) ∧ w.grownBy w' v.ownBlock := by
  have h63 : n + s.size ≤ maxLen := by unfold maxLen; omega
  rcases hown.2 with ⟨rfl, rfl⟩ | ⟨g, cap, cur, fz, rfl, hbg, hg, hfz, hnc, hcm, hcs, htake⟩
  · obtain ⟨v', w', h1, h2, h3, _⟩ := run_append_own_string (P := P) w base t u ty e i ht hu hi hz hsize hby (.slice none 0 0) 0 xs ⟨by rw [hown.1], .inl ⟨rfl, rfl⟩⟩ s h63 hbytes hbase
    exact ⟨v', w', h1, ownsT.of h2, h3⟩
  · have hsmall : n + s.size ≤ 9223372036854775807 := by omega
    have hxl : xs.length = n := hown.1
    have hlen : (xs ++ strCells s).length = n + s.size := by rw [List.length_append, hxl, strCells_length]
    by_cases hroom : n + s.size ≤ cap
    · have hf := run_firstCells_string (P := P) w 1 s
      have hst := run_storeCells_atT P g n e fz (strCells s) 0 cur w hg (by simp; omega) (by simp [strCells_length]; omega) (strCells_oneCell s)
      simp only [Nat.add_zero, strCells_length] at hst
      have hr : (Builtin.append_ #[t, u] ty #[.slice (some ⟨g, 0, none⟩) n cap, .string s]).run P w = .ok (.slice (some ⟨g, 0, none⟩) (n + s.size) cap) (w.setRow g (cur.toList.take n ++ strCells s ++ cur.toList.drop (n + s.size)).toArray) := by
        simp [Builtin.append_, run_underlying ht, run_underlying hu, sizeOf, typeInfo, hi, hsize, Builtin.lenOf, hroom, hf, Addr.add_lit, hst]
      refine ⟨_, _, hr, ⟨hlen, .inr ⟨g, cap, _, fz, rfl, hbg, setRow_heap w g cur _ e _ hg, by omega, hroom, hcm, ?_, ?_⟩⟩, ⟨rfl, rfl, rfl, by simp, fun k _ hk => setRow_other w g k _ (fun e => hk (by simp [Value.ownBlock, e]))⟩⟩
      · simp only [List.size_toArray, List.length_append, List.length_take, List.length_drop, Array.length_toList, strCells_length]
        omega
      · rw [htake, ← hlen]
        exact List.take_left
    · have holds : ∀ j u, xs[j]? = some u → w.cell? ((⟨g, 0, none⟩ : Addr).add j) = some u := hown.cells (g := g) rfl
      have hr := run_append_grow_string (P := P) w t u ty e i (.int .u8 0) ht hu hi hz ⟨g, 0, none⟩ n cap xs (by rw [hsize]; simpa using hxl) holds s (by omega) (by omega) (by rw [hby]; exact growslice_fits (by omega) (by omega))
      have hge := grownCap_ge w (n + s.size) cap e
      have hcm2 : grownCap w (n + s.size) cap e ≤ maxLen := grownCap_le_maxLen w (n + s.size) cap e h63
      refine ⟨_, _, hr, ⟨hlen, .inr ⟨w.heap.size, _, _, (0, 0), rfl, hbase, heap_alloc_new w.drew _, .inl (Nat.zero_le _), hge, hcm2, ?_, ?_⟩⟩, ⟨rfl, rfl, rfl, by simp, fun k hk _ => Below.heap_alloc w.drew _ k hk⟩⟩
      · have hz1 : (Value.int IntKind.u8 0).cells.size = 1 := rfl
        simp only [Array.size_append, List.size_toArray, size_zeroCells, hz1, hxl, strCells_length]
        omega
      · simp only [Array.toList_append, List.append_assoc]
        rw [← List.append_assoc, ← hlen]
        exact List.take_left
theorem wpList_appT {ops : Array Oper} {rest : List Oper} {o : Oper} {a : Act} {Q : Exit → Act → World → Prop} (hgd : o.guard = none) (sl x : Operand) (t u : TypeId)
    (ho : o.op = .call { callee := .builtin .append, args := #[sl, x], argTypes := #[t, u] })
    (base : Nat) (e : TypeId) (ht : P.underlying t = some (.slice e)) (hu : P.underlying u = some .string) (hinfo : (P.info? e).map (fun i => (i.zero, i.size, i.bytes)) = some (some (.int .u8 0), 1, 1))
    (v : Value) (n : Nat) (xs : List Value) (hs : a.eval sl = v) (hown : ownsT w base e v n xs) (s : ByteArray) (hx : a.eval x = .string s)
    (hbytes : n + s.size ≤ 140737488355328) (hbase : base ≤ w.heap.size)
    (h : ∀ v' w', ownsT w' base e v' (n + s.size) (xs ++ strCells s) → w.grownBy w' v.ownBlock → wpList P ops Q rest (a.put o.dst v') w') : wpList P ops Q (o :: rest) a w := by
  obtain ⟨i, hi, hz, hsz, hby⟩ := info_parts hinfo
  refine wpList_plain hgd fun K hK => ?_
  obtain ⟨v', w', hr, h2, h3⟩ := run_append_T (P := P) base t u o.type e i ht hu hi hz hsz hby v n xs hown s hbytes hbase
  unfold Oper.wp execOp
  simp only [ho, resolve, invoke, builtin, Sem.run_bind, Sem.run_pure, Result.andThen_ok, List.map_toArray, List.map_cons, List.map_nil, hs, hx, hr]
  exact hK _ _ (h v' w' h2 h3)
theorem step_appT {ops : Array Oper} {o : Oper} {a : Act} {K : Act → World → Prop} {Q : Exit → Act → World → Prop} {E : Prop} (hgd : o.guard = none) (sl x : Operand) (t u : TypeId)
    (ho : o.op = .call { callee := .builtin .append, args := #[sl, x], argTypes := #[t, u] })
    (base : Nat) (e : TypeId) (ht : P.underlying t = some (.slice e)) (hu : P.underlying u = some .string) (hinfo : (P.info? e).map (fun i => (i.zero, i.size, i.bytes)) = some (some (.int .u8 0), 1, 1))
    (v : Value) (n : Nat) (xs : List Value) (hs : a.eval sl = v) (hown : ownsT w base e v n xs) (s : ByteArray) (hx : a.eval x = .string s)
    (hbytes : n + s.size ≤ 140737488355328) (hbase : base ≤ w.heap.size)
    (h : ∀ v' w', ownsT w' base e v' (n + s.size) (xs ++ strCells s) → w.grownBy w' v.ownBlock → K (a.put o.dst v') w') :
    if Region.wanted o (yielded ops a.tmps) = true then Oper.wp P o a w K Q else E := by
  have hw : Region.wanted o (yielded ops a.tmps) = true := by simp [Region.wanted, hgd]
  rw [if_pos hw]
  obtain ⟨i, hi, hz, hsz, hby⟩ := info_parts hinfo
  obtain ⟨v', w', hr, h2, h3⟩ := run_append_T (P := P) base t u o.type e i ht hu hi hz hsz hby v n xs hown s hbytes hbase
  unfold Oper.wp execOp
  simp only [ho, resolve, invoke, builtin, Sem.run_bind, Sem.run_pure, Result.andThen_ok, List.map_toArray, List.map_cons, List.map_nil, hs, hx, hr]
  exact h v' w' h2 h3
/-- []byte(s) -/
theorem own_bytesT (w : World) (src dst e : TypeId) (s : ByteArray) (hs : P.underlying src = some .string) (hd : P.underlying dst = some (.slice e)) (he : P.underlying e = some (.int .u8)) (hz : s.size ≤ 140737488355328) :
    ∃ cap w1, (convert src dst (.string s)).run P w = .ok (.slice (some ⟨w.heap.size, 0, none⟩) s.size cap) w1 ∧ ownsT w1 w.heap.size e (.slice (some ⟨w.heap.size, 0, none⟩) s.size cap) s.size (strCells s) ∧ Below w.heap.size w w1 := by
  have hge := grownCap_ge w s.size 0 e
  have hcm := grownCap_le_maxLen w s.size 0 e (by unfold maxLen; omega)
  refine ⟨_, _, run_bytes_of_string w src dst e s hs hd he, ⟨strCells_length s, .inr ⟨w.heap.size, _, _, _, rfl, Nat.le_refl _, heap_alloc_new w.drew _, .inr ?_, hge, hcm, ?_, ?_⟩⟩, ((Below.refl _ w).drew).alloc (Nat.le_refl _) _⟩
  · unfold bytesRow
    simp only [Array.size_append, Array.size_map, Array.size_replicate]
    have : s.data.size = s.size := rfl
    omega
  · unfold bytesRow
    simp only [Array.size_append, Array.size_map, Array.size_replicate]
    have : s.data.size = s.size := rfl
    omega
  · unfold bytesRow strCells
    simp only [Array.toList_append, Array.toList_map]
    rw [List.take_append_of_le_length (by simp), List.take_of_length_le (by simp)]
/-- string(v) -/
theorem run_convert_T {base : Nat} {v : Value} {n : Nat} {l : List UInt8} (src dst e : TypeId) (hs : P.underlying src = some (.slice e)) (he : P.underlying e = some (.int .u8)) (hd : P.underlying dst = some .string)
    (hown : ownsT w base e v n (bytesV l)) : (convert src dst v).run P w = .ok (.string ⟨l.toArray⟩) w := by
  have hlen := hown.1
  rw [bytesV_len] at hlen
  rcases hown.2 with hv | ⟨g, cap, cur, fz, hv, _⟩
  · obtain ⟨rfl, rfl⟩ := hv
    have : l = [] := List.length_eq_zero_iff.1 hlen
    subst this
    exact run_convert_bytes_nil w src e hs he 0 0 dst hd
  · subst hv
    subst hlen
    exact run_convert_bytes_back w src dst e ⟨g, 0, none⟩ cap l hs he hd (fun j hj => hown.cells (g := g) rfl j _ (by simp [bytesV, List.getElem?_eq_getElem hj]))
end
theorem strCells_bytesV (s : ByteArray) : strCells s = bytesV s.data.toList := by
  unfold strCells bytesV
  rfl
end Go.Proofs.YtaoejgnfoecpfaaDoor
namespace Go.Proofs.YtaoejgnfoecpfaaDoor
set_option linter.unusedVariables false
set_option linter.unusedSimpArgs false
set_option linter.unusedSectionVars false
open Go.RowKit

theorem pnum12_any (n : Nat) (w : World) (hn : n ≤ 9223372036854775807) : Calls Tryd.prog 64 #[.int .i64 n] w fun e w' => e = .returned (.string ⟨(varL n).toArray⟩) ∧ Below w.heap.size w w' := by
  have H1 := Lib.hid fun W => var_any n W (by omega)
  have hu : IntKind.u64.wrap (n : Int) = (n : Int) := IntWalk.u64_in _ (by omega)
  clear hn
  go_enter Tryd.func64, Tryd.ntmps64
  go_wp2_with fail
  refine (H1.out _).mono ?_
  rintro e w1 ⟨rfl, hb⟩
  go_wp2
  go_ret
  exact ⟨rfl, hb⟩
theorem ptext12_any (s : ByteArray) (w : World) (hs : s.size ≤ 140737488355328) : Calls Tryd.prog 66 #[.string s] w fun e w' => e = .returned (.string (bs (textL s))) ∧ Below w.heap.size w w' := by
  have H1 := Lib.hid fun W => var_any s.size W (by omega)
  have hv := varB_size s.size
  have HE := Lib.hid (show (⟨(varL s.size).toArray⟩ : ByteArray) ++ s = bs (textL s) from bs_appS _ _)
  have hu : IntKind.u64.wrap (s.size : Int) = (s.size : Int) := IntWalk.u64_in _ (by omega)
  generalize (⟨(varL s.size).toArray⟩ : ByteArray) = v at *
  have y1 := fun W => run_string_add_sum (P := Tryd.prog) W v s (by omega)
  go_enter Tryd.func66, Tryd.ntmps66
  go_wp2_with fail
  refine (H1.out _).mono ?_
  rintro e w1 ⟨rfl, hb⟩
  go_wp2
  go_ret
  exact ⟨ret_str HE.out, hb⟩
/-- a number's text, a text's -/
theorem pvar (n : Nat) (hn : n ≤ 9223372036854775807) : ∃ v : ByteArray, v.data.toList = varL n ∧ v.size ≤ 11 ∧ ∀ W, Calls Tryd.prog 64 #[.int .i64 n] W fun e w' => e = .returned (.string v) ∧ Below W.heap.size W w' :=
  ⟨⟨(varL n).toArray⟩, by simp, varB_size n, fun W => pnum12_any n W hn⟩
theorem ptxt (s : ByteArray) (hs : s.size ≤ 200) : ∃ v : ByteArray, v.data.toList = textL s ∧ v.size ≤ 211 ∧ ∀ W, Calls Tryd.prog 66 #[.string s] W fun e w' => e = .returned (.string v) ∧ Below W.heap.size W w' := by
  refine ⟨bs (textL s), bs_list _, ?_, fun W => ptext12_any s W (by omega)⟩
  have := varB_size s.size
  have h2 : (varL s.size).length ≤ 11 := this
  rw [bs_size]
  unfold textL
  rw [List.length_append, ba_len]
  omega
end Go.Proofs.YtaoejgnfoecpfaaDoor
namespace Go.Proofs.YtaoejgnfoecpfaaDoor
set_option linter.unusedVariables false
set_option linter.unusedSimpArgs false
set_option linter.unusedSectionVars false
open Go.RowKit Go.Lib

theorem infoU8 : (Tryd.prog.info? 5).map (fun i => (i.zero, i.size, i.bytes)) = some (some (.int .u8 0), 1, 1) := by kernel_rfl
def encS (l : List Nr) : ByteArray := if chkN l = 0 then bs (encN l) else noB
/-- a row of bytes, its value hidden -/
theorem ownsT.app {w : World} {B : Nat} {v : Value} {n : Nat} {l : List UInt8} {s : ByteArray} (h : ownsT w B 5 v (n + s.size) (bytesV l ++ strCells s)) (hl : n = l.length) : ownsT w B 5 v (l ++ s.data.toList).length (bytesV (l ++ s.data.toList)) := by
  have e : n + s.size = (l ++ s.data.toList).length := by rw [List.length_append, ba_len, hl]
  rw [e, strCells_bytesV, ← bytesV_app] at h
  exact h
set_option maxRecDepth 100000 in
set_option maxHeartbeats 12800000 in
theorem nencode_any (l : List Nr) (A : Option Addr) (c : Nat) (w : World) (he : Env w) (hn : NodesA w A l) (hb : ∀ x ∈ l, NrB x) (hl : l.length ≤ 9223372036854775807) :
    Calls Tryd.prog 17 #[.slice A l.length c] w fun e w' => e = .returned (.tuple #[.string (encS l), .int .i64 (chkN l : Nat)]) ∧ Below w.heap.size w w' := by
  have HN := Lib.hid fun W (hb : Below w.heap.size w W) => hn.below hb
  have HCK := Lib.hid (ncheck_any l A c w he hn hb hl)
  by_cases hc : chkN l = 0
  · obtain ⟨hl2, hfit⟩ := chk_fit hc
    have HF := Lib.hid hfit
    have HX := Lib.hid (show encS l = bs (encN l) from if_pos hc)
    obtain ⟨v0, e0, s0, H0⟩ := pvar l.length (by omega)
    have HV0 := Lib.hid H0
    have HE0 := Lib.hid e0
    rw [hc] at HCK
    rw [hc]
    clear hn hb he hfit hc H0 e0
    have m1 := mFol
    have m2 := mPla
    have m3 := mSym
    have tfp := taFP
    have tfs := taFS
    have tpp := taPP
    have tps := taPS
    have tsp := taSP
    have tss := taSS
    unfold zPla at tfp tsp
    unfold zSym at tfs tps
    go_enter Tryd.func17, Tryd.ntmps17
    go_wp2_with fail
    refine HCK.out.mono ?_
    rintro e w1 ⟨rfl, hb1⟩
    have HB1 := Lib.hid hb1
    clear hb1
    go_wp2_with fail
    refine (HV0.out _).mono ?_
    rintro e w2 ⟨rfl, hb2⟩
    have hbw2 := HB1.out.trans (hb2.mono HB1.out.size)
    obtain ⟨cap, w3, hcv, how, hb3⟩ := own_bytesT (P := Tryd.prog) w2 9 46 5 v0 Tryd.underlying9 Tryd.underlying46 Tryd.underlying5 (by omega)
    have hbw3 := hbw2.trans (hb3.mono hbw2.size)
    have how2 : ownsT w3 w.heap.size 5 (.slice (some ⟨w2.heap.size, 0, none⟩) v0.size cap) v0.data.toList.length (bytesV v0.data.toList) := by
      rw [strCells_bytesV] at how
      rw [ba_len]
      obtain ⟨q1, q2⟩ := how
      refine ⟨q1, q2.imp id ?_⟩
      rintro ⟨g, cp, cur, fz, r1, r2, r3⟩
      exact ⟨g, cp, cur, fz, r1, Nat.le_trans hbw2.size r2, r3⟩
    have HB3 := Lib.hid hbw3
    have HOW := Lib.hid how2
    clear hb2 hb3 hbw2 hbw3 how how2
    go_wp2
    go_loopw [5, 27] (fun ov i wr => ∃ (k : Nat) (acc : List UInt8) (v : Value), ov = v ∧ i = .int .i64 (k : Nat) ∧ k ≤ l.length ∧ ownsT wr w.heap.size 5 v acc.length (bytesV acc) ∧ acc = varL l.length ++ bodyN (l.take k) ∧ acc.length ≤ 11 + 2000000 * k ∧ Below w.heap.size w wr) (fun _ i _ => l.length - (Go.RowKit.intOf i).toNat)
    case atStart => exact ⟨0, v0.data.toList, _, rfl, rfl, Nat.zero_le _, HOW.out, by rw [HE0.out]; simp [bodyN], by rw [ba_len]; omega, HB3.out⟩
    case round =>
      obtain ⟨k, acc, v, rfl, rfl, hk, how, hac, haz, hbel⟩ := hrel
      have HBL := Lib.hid hbel
      have HAC := Lib.hid hac
      have HO := Lib.hid how
      clear hac how HOW HB3 hcv
      by_cases hkl : k < l.length
      · obtain ⟨g, o, rfl, hg, hcc⟩ := HN.out w (Below.refl _ _) (by omega)
        obtain ⟨u, hcu0, hiu⟩ := hcc k l[k] (List.getElem?_eq_getElem hkl)
        have hcu := (hbel.cell (p := ⟨g, o + k, none⟩) hg).trans hcu0
        clear hcu0
        have hfx0 := HF.out _ (List.getElem_mem hkl)
        have HSN := Lib.hid (body_snoc l k hkl)
        clear hcc hbel
        generalize l[k] = x at *
        have HKI := Lib.hid fun W (h : NodeIs W u x) => kind_any u x W h
        obtain ⟨hkx, _, _⟩ := fit_parts hfx0
        have HFA := Lib.hid fun W (h : NodeIs W u x) => facts_any u x W h hkx
        unfold FactsPost at HFA
        have hkr := (kindR_ok hkx).1
        rw [hkr] at HKI
        obtain ⟨kind, a, mode, time, size, chunks, target⟩ := x
        obtain ⟨kk, m, t, hkd, hkk, hmd, hm, htd, ht, ha, h2, h3⟩ := fit_nums hfx0
        simp only at hkd hmd htd ha h2 h3 HKI HFA
        subst hkd
        subst hmd
        subst htd
        clear hfx0 hkr hkx
        have hkb : kk ≤ 3 := by rcases hkk with h | h | h <;> rw [h] <;> decide
        obtain ⟨v1, e1, s1, H1⟩ := pvar kk (Nat.le_trans hkb (by decide))
        obtain ⟨v2, e2, s2, H2⟩ := ptxt a ha
        obtain ⟨v3, e3, s3, H3⟩ := pvar m (Nat.le_trans hm (by decide))
        obtain ⟨v4, e4, s4, H4⟩ := pvar t (Nat.le_trans ht (by decide))
        have HV1 := Lib.hid H1
        have HV2 := Lib.hid H2
        have HV3 := Lib.hid H3
        have HV4 := Lib.hid H4
        have HEX := Lib.hid (show txtN ⟨(kk : Int), a, (m : Int), (t : Int), size, chunks, target⟩ = (v1 ++ v2 ++ v3 ++ v4).data.toList ++ tailN ⟨(kk : Int), a, (m : Int), (t : Int), size, chunks, target⟩ by
          unfold txtN
          simp only [ByteArray.data_append, Array.toList_append, e1, e2, e3, e4, Int.toNat_natCast, List.append_assoc])
        have hzz : (v1 ++ v2 ++ v3 ++ v4).size ≤ 300 := by simp only [ByteArray.size_append]; omega
        clear H1 H2 H3 H4 e1 e2 e3 e4
        have hk0 : (0 : Int) ≤ (k : Int) := by omega
        have hki : (k : Int) < (l.length : Int) := by omega
        have hk3 : ((k : Int)).toNat = k := by omega
        have HH2 := Lib.hid h2
        have HH3 := Lib.hid h3
        have HZZ := Lib.hid hzz
        have y1 := fun W => run_string_add_sum (P := Tryd.prog) W v1 v2 (by omega)
        have y2 := fun W => run_string_add_sum (P := Tryd.prog) W (v1 ++ v2) v3 (by simp only [ByteArray.size_append]; omega)
        have y3 := fun W => run_string_add_sum (P := Tryd.prog) W (v1 ++ v2 ++ v3) v4 (by simp only [ByteArray.size_append]; omega)
        have HIU := Lib.hid fun W (hb : Below w.heap.size w W) => hiu.below hb
        have hll := hl2
        clear h2 h3
        rcases hiu with ⟨hq, hu⟩ | ⟨hq, X, cx, hu, hsx, hnx⟩ | ⟨hq, hu⟩ | ⟨hq, _⟩
        · unfold folV at hu
          subst hu
          have hkq : kk = 1 := by simp only at hq; omega
          subst hkq
          go_wp2_with fail
          refine (HFA.out _ (HIU.out _ HBL.out)).mono ?_
          rintro e wa ⟨rfl, hba⟩
          have HWA := Lib.hid hba
          clear hba
          go_wp2_with fail
          refine (HKI.out _ (HIU.out _ (HBL.out.trans (HWA.out.mono HBL.out.size)))).mono ?_
          rintro e wb ⟨rfl, rfl⟩
          go_wp2_with fail
          refine (HV1.out _).mono ?_
          rintro e wb ⟨rfl, hbb⟩
          have HWB := Lib.hid (HWA.out.trans (hbb.mono HWA.out.size))
          clear hbb
          go_wp2_with fail
          refine (pathF _ _ _ _).mono ?_
          rintro e wc ⟨rfl, hbc⟩
          have HWC := Lib.hid (HWB.out.trans (hbc.mono HWB.out.size))
          clear hbc
          go_wp2_with fail
          refine (HV2.out _).mono ?_
          rintro e wd ⟨rfl, hbd⟩
          have HWD := Lib.hid (HWC.out.trans (hbd.mono HWC.out.size))
          clear hbd
          go_wp2_with fail
          refine (HV3.out _).mono ?_
          rintro e we ⟨rfl, hbe⟩
          have HWE := Lib.hid (HWD.out.trans (hbe.mono HWD.out.size))
          clear hbe
          go_wp2_with fail
          refine (HV4.out _).mono ?_
          rintro e wf ⟨rfl, hbf⟩
          have HWF := Lib.hid (HWE.out.trans (hbf.mono HWE.out.size))
          have HBF := Lib.hid (HBL.out.trans (HWF.out.mono HBL.out.size))
          have HOF := Lib.hid (HO.out.below HWF.out)
          clear hbf HWA HWB HWC HWD HWE
          generalize v1 ++ v2 ++ v3 ++ v4 = hd at *
          go_wp2_with (at_builtin; refine wpList_appT rfl _ _ 46 9 rfl w.heap.size 5 Tryd.underlying46 Tryd.underlying9 infoU8 _ acc.length (bytesV acc) rfl HOF.out hd rfl (by have := HZZ.out; omega) HBF.out.size ?_; intro vg wg howg hgg; have HOG := Lib.hid (howg.app rfl); have HBG := Lib.hid (HBF.out.grown hgg HBF.out.size fun j hj => (HOF.out.lt j hj).1); clear howg hgg)
          have HT := Lib.hid HEX.out
          rw [tailN_1 rfl, List.append_nil] at HT
          have ho2 := HOG.out.below ((((Below.refl _ wg).alloc (Nat.le_refl _) (.cells #[.string ⟨#[]⟩, .int .i64 0, .int .i64 0, .int .i64 0, .slice none 0 0] 75)).alloc (by simp) (.cells #[.string ⟨#[]⟩, .int .i64 0, .int .i64 0, .string ⟨#[]⟩] 103)))
          have hb2 := (HBG.out.alloc HBG.out.size (.cells #[.string ⟨#[]⟩, .int .i64 0, .int .i64 0, .int .i64 0, .slice none 0 0] 75))
          have hb3 := hb2.alloc hb2.size (.cells #[.string ⟨#[]⟩, .int .i64 0, .int .i64 0, .string ⟨#[]⟩] 103)
          go_roundw
          case rel => exact ⟨k + 1, acc ++ hd.data.toList, vg, rfl, by go_num, by omega, ho2, by rw [HSN.out, HT.out, HAC.out, List.append_assoc], by have := HZZ.out; rw [List.length_append, ba_len]; omega, hb3⟩
          case measure => simp [Go.RowKit.intOf]; omega
        · unfold plaV at hu
          subst hu
          have hkq : kk = 2 := by simp only at hq; omega
          subst hkq
          go_wp2_with fail
          refine (HFA.out _ (HIU.out _ HBL.out)).mono ?_
          rintro e wa ⟨rfl, hba⟩
          have HWA := Lib.hid hba
          clear hba
          go_wp2_with fail
          refine (HKI.out _ (HIU.out _ (HBL.out.trans (HWA.out.mono HBL.out.size)))).mono ?_
          rintro e wb ⟨rfl, rfl⟩
          go_wp2_with fail
          refine (HV1.out _).mono ?_
          rintro e wb ⟨rfl, hbb⟩
          have HWB := Lib.hid (HWA.out.trans (hbb.mono HWA.out.size))
          clear hbb
          go_wp2_with fail
          refine (pathP _ _ _ _ _ _ _ _).mono ?_
          rintro e wc ⟨rfl, hbc⟩
          have HWC := Lib.hid (HWB.out.trans (hbc.mono HWB.out.size))
          clear hbc
          go_wp2_with fail
          refine (HV2.out _).mono ?_
          rintro e wd ⟨rfl, hbd⟩
          have HWD := Lib.hid (HWC.out.trans (hbd.mono HWC.out.size))
          clear hbd
          go_wp2_with fail
          refine (HV3.out _).mono ?_
          rintro e we ⟨rfl, hbe⟩
          have HWE := Lib.hid (HWD.out.trans (hbe.mono HWD.out.size))
          clear hbe
          go_wp2_with fail
          refine (HV4.out _).mono ?_
          rintro e wf ⟨rfl, hbf⟩
          have HWF := Lib.hid (HWE.out.trans (hbf.mono HWE.out.size))
          have HBF := Lib.hid (HBL.out.trans (HWF.out.mono HBL.out.size))
          have HOF := Lib.hid (HO.out.below HWF.out)
          clear hbf HWA HWB HWC HWD HWE
          generalize v1 ++ v2 ++ v3 ++ v4 = hd at *
          go_wp2_with (at_builtin; refine wpList_appT rfl _ _ 46 9 rfl w.heap.size 5 Tryd.underlying46 Tryd.underlying9 infoU8 _ acc.length (bytesV acc) rfl HOF.out hd rfl (by have := HZZ.out; omega) HBF.out.size ?_; intro vg wg howg hgg; have HOG := Lib.hid (howg.app rfl); have HBG := Lib.hid (HBF.out.grown hgg HBF.out.size fun j hj => (HOF.out.lt j hj).1); clear howg hgg)
          obtain ⟨z, hzd, hz, hcz, h32⟩ := HH2.out (by trivial)
          subst hzd
          have HT := Lib.hid HEX.out
          rw [tailN_2 rfl] at HT
          have H32 := Lib.hid h32
          have HCZ := Lib.hid (And.intro hz hcz)
          obtain ⟨v5, e5, s5, H5⟩ := pvar z (Nat.le_trans hz (by decide))
          obtain ⟨v6, e6, s6, H6⟩ := pvar chunks.length (Nat.le_trans (Nat.le_trans hcz hz) (by decide))
          have HV5 := Lib.hid H5
          have HV6 := Lib.hid H6
          have z1 := fun W => run_string_add_sum (P := Tryd.prog) W v5 v6 (by omega)
          have HE56 := Lib.hid (show (v5 ++ v6).data.toList = varL z ++ varL chunks.length by rw [ByteArray.data_append, Array.toList_append, e5, e6])
          have hz56 : (v5 ++ v6).size ≤ 22 := by rw [ByteArray.size_append]; omega
          have HZ56 := Lib.hid hz56
          have HST := Lib.hid fun W (hb : Below w.heap.size w W) => StrsA.below hsx hb
          clear H5 H6 e5 e6 h32 HH2 HH3 hq
          have hgh := (Below.refl wg.heap.size wg).alloc (Nat.le_refl _) (.cells #[.string a, .int .i64 m, .int .i64 t, .int .i64 z, .slice X chunks.length cx] 75)
          have HKH := Lib.hid (Blk.new wg 75 #[.string a, .int .i64 m, .int .i64 t, .int .i64 z, .slice X chunks.length cx])
          have HOH := Lib.hid (HOG.out.below hgh)
          have HBH := Lib.hid (HBG.out.trans (hgh.mono HBG.out.size))
          have hvgne : ∀ j, vg.ownBlock = some j → j < wg.heap.size := fun j hj => (HOG.out.lt j hj).2
          clear hgh HOG HBG
          generalize wg.alloc (.cells #[.string a, .int .i64 m, .int .i64 t, .int .i64 z, .slice X chunks.length cx] 75) = wh at *
          have d3 : wh.cell? ⟨wg.heap.size, 3, none⟩ = some (.int .i64 z) := HKH.out.cell 3
          have d4 : wh.cell? ⟨wg.heap.size, 4, none⟩ = some (.slice X chunks.length cx) := HKH.out.cell 4
          have HNE := Lib.hid hvgne
          clear hvgne m2 tpp m1 m3 tfp tfs tsp tss
          clear y1 y2 y3 HFA HKI HIU HV1 HV2 HV3 HV4
          go_region_law (first
            | (go_simp; go_at_call 64; (with_reducible refine (HV5.out _).mono ?_); rintro e w8 ⟨rfl, hb8⟩; have hk8 := (Blk.drew HKH.out).below hb8 (Blk.drew HKH.out).lt; have d34 : w8.cell? ⟨wg.heap.size, 4, none⟩ = some (.slice X chunks.length cx) := hk8.cell 4; have hbz8 := ((Below.refl _ wh).drew).trans hb8)
            | (go_simp; go_at_call 64; (with_reducible refine (HV6.out _).mono ?_); rintro e w9 ⟨rfl, hb9⟩; have hbz9 := hbz8.trans (hb9.mono hbz8.size))
            | (refine step_appT (by rfl) _ _ 46 9 (by rfl) w.heap.size 5 Tryd.underlying46 Tryd.underlying9 infoU8 vg (acc ++ hd.data.toList).length (bytesV (acc ++ hd.data.toList)) (by rfl) (HOH.out.below hbz9) (v5 ++ v6) (by rfl) (by have := HZ56.out; have := HZZ.out; rw [List.length_append, ba_len]; omega) (Nat.le_trans HBH.out.size hbz9.size) ?_; intro vk wk howk hgk))
          all_goals
            have HGK := Lib.hid (howk.app rfl)
            have HBK := Lib.hid ((HBH.out.trans (hbz9.mono HBH.out.size)).grown hgk (Nat.le_trans HBH.out.size hbz9.size) (fun j hj => (HOH.out.lt j hj).1))
            have hkk9 := (HKH.out.below hbz9 HKH.out.lt).grown hgk (fun e => by have := HNE.out _ e.symm; omega)
            have d35 : wk.cell? ⟨wg.heap.size, 4, none⟩ = some (.slice X chunks.length cx) := hkk9.cell 4
            have hac2 : acc ++ hd.data.toList ++ (v5 ++ v6).data.toList = varL l.length ++ bodyN (l.take k) ++ hd.data.toList ++ (varL z ++ varL chunks.length) := by rw [HAC.out, HE56.out]
            have haz2 : (acc ++ hd.data.toList ++ (v5 ++ v6).data.toList).length ≤ 333 + 2000000 * k := by
              have := HZ56.out
              have := HZZ.out
              rw [List.length_append, List.length_append, ba_len, ba_len]
              omega
            have HAC2 := Lib.hid hac2
            clear howk hgk hkk9 hac2 d3 d4 z1 HOH HKH HBH HNE HO HV5 HV6
            generalize acc ++ hd.data.toList ++ (v5 ++ v6).data.toList = ac2 at *
            go_wp2
            go_loopw [5, 13, 70] (fun ov cv i wr => ∃ (j : Nat) (ac : List UInt8) (v u : Value), ov = v ∧ cv = u ∧ i = .int .i64 (j : Nat) ∧ j ≤ chunks.length ∧ ownsT wr w.heap.size 5 v ac.length (bytesV ac) ∧ ac = varL l.length ++ bodyN (l.take k) ++ hd.data.toList ++ (varL z ++ varL chunks.length) ++ catN (chunks.take j) ∧ ac.length ≤ 333 + 2000000 * k + 32 * j ∧ Below w.heap.size w wr) (fun _ _ i _ => chunks.length - (Go.RowKit.intOf i).toNat)
            case atStart => exact ⟨0, ac2, vk, _, rfl, rfl, rfl, Nat.zero_le _, HGK.out, by rw [HAC2.out]; simp [catN], by omega, HBK.out⟩
            case round =>
              obtain ⟨j, ac, v, u, rfl, rfl, rfl, hj, how, haj, hjz, hbel⟩ := hrel
              have HO := Lib.hid how
              have HAJ := Lib.hid haj
              have HBJ := Lib.hid hbel
              clear how haj HGK HBK HAC2
              by_cases hjl : j < chunks.length
              · obtain ⟨bk, ok, rfl, hbk, hcc⟩ := HST.out _ hbel (by show 0 < chunks.length; omega)
                have hck := hcc j chunks[j] (List.getElem?_eq_getElem hjl)
                have HCS := Lib.hid (catN_snoc chunks j hjl)
                have hcz := H32.out chunks[j] (List.getElem_mem hjl)
                have hcz2 := HCZ.out
                clear hcc hbel
                generalize chunks[j] = ch at *
                go_wp2_with (at_builtin; refine wpList_appT rfl _ _ 46 9 rfl w.heap.size 5 Tryd.underlying46 Tryd.underlying9 infoU8 _ ac.length (bytesV ac) rfl HO.out ch rfl (by omega) HBJ.out.size ?_; intro vn wn hown hgn; have HON := Lib.hid (hown.app rfl); have HBN := Lib.hid (HBJ.out.grown hgn HBJ.out.size fun j hj => (HO.out.lt j hj).1); clear hown hgn)
                go_roundw
                case rel => exact ⟨j + 1, ac ++ ch.data.toList, vn, _, rfl, rfl, by go_num, by omega, HON.out, by rw [HCS.out, HAJ.out]; simp only [List.append_assoc], by rw [List.length_append, ba_len]; omega, HBN.out⟩
                case measure => simp [Go.RowKit.intOf]; omega
              · have hje : j = chunks.length := by omega
                have hcz2 := HCZ.out
                have HJ := Lib.hid (show ac = varL l.length ++ bodyN (l.take (k + 1)) by
                  rw [HSN.out, HT.out, HAJ.out, hje, List.take_length]
                  simp only [List.append_assoc, Int.toNat_natCast])
                clear hje hbel
                obtain ⟨wj, rfl⟩ : ∃ wj : World, wj = wr := ⟨_, rfl⟩
                have ho2 := HO.out.below ((Below.refl _ wj).alloc (Nat.le_refl _) (.cells #[.string ⟨#[]⟩, .int .i64 0, .int .i64 0, .string ⟨#[]⟩] 103))
                have hb2 := HBJ.out.alloc HBJ.out.size (.cells #[.string ⟨#[]⟩, .int .i64 0, .int .i64 0, .string ⟨#[]⟩] 103)
                go_wp2
                go_roundw
                case rel => exact ⟨k + 1, ac, _, rfl, by go_num, by omega, ho2, HJ.out, by omega, hb2⟩
                case measure => simp [Go.RowKit.intOf]; omega
        · unfold symV at hu
          subst hu
          have hkq : kk = 3 := by simp only at hq; omega
          subst hkq
          go_wp2_with fail
          refine (HFA.out _ (HIU.out _ HBL.out)).mono ?_
          rintro e wa ⟨rfl, hba⟩
          have HWA := Lib.hid hba
          clear hba
          go_wp2_with fail
          refine (HKI.out _ (HIU.out _ (HBL.out.trans (HWA.out.mono HBL.out.size)))).mono ?_
          rintro e wb ⟨rfl, rfl⟩
          go_wp2_with fail
          refine (HV1.out _).mono ?_
          rintro e wb ⟨rfl, hbb⟩
          have HWB := Lib.hid (HWA.out.trans (hbb.mono HWA.out.size))
          clear hbb
          go_wp2_with fail
          refine (pathS _ _ _ _ _).mono ?_
          rintro e wc ⟨rfl, hbc⟩
          have HWC := Lib.hid (HWB.out.trans (hbc.mono HWB.out.size))
          clear hbc
          go_wp2_with fail
          refine (HV2.out _).mono ?_
          rintro e wd ⟨rfl, hbd⟩
          have HWD := Lib.hid (HWC.out.trans (hbd.mono HWC.out.size))
          clear hbd
          go_wp2_with fail
          refine (HV3.out _).mono ?_
          rintro e we ⟨rfl, hbe⟩
          have HWE := Lib.hid (HWD.out.trans (hbe.mono HWD.out.size))
          clear hbe
          go_wp2_with fail
          refine (HV4.out _).mono ?_
          rintro e wf ⟨rfl, hbf⟩
          have HWF := Lib.hid (HWE.out.trans (hbf.mono HWE.out.size))
          have HBF := Lib.hid (HBL.out.trans (HWF.out.mono HBL.out.size))
          have HOF := Lib.hid (HO.out.below HWF.out)
          clear hbf HWA HWB HWC HWD HWE
          generalize v1 ++ v2 ++ v3 ++ v4 = hd at *
          go_wp2_with (at_builtin; refine wpList_appT rfl _ _ 46 9 rfl w.heap.size 5 Tryd.underlying46 Tryd.underlying9 infoU8 _ acc.length (bytesV acc) rfl HOF.out hd rfl (by have := HZZ.out; omega) HBF.out.size ?_; intro vg wg howg hgg; have HOG := Lib.hid (howg.app rfl); have HBG := Lib.hid (HBF.out.grown hgg HBF.out.size fun j hj => (HOF.out.lt j hj).1); clear howg hgg)
          have htg := HH3.out (by trivial)
          have HT := Lib.hid HEX.out
          rw [tailN_3 rfl] at HT
          obtain ⟨v5, e5, s5, H5⟩ := ptxt target htg
          clear HH2 HH3 hq
          refine (H5 _).mono ?_
          rintro e wm ⟨rfl, hbm⟩
          have hal := ((Below.refl wg.heap.size wg).alloc (Nat.le_refl _) (.cells #[.string ⟨#[]⟩, .int .i64 0, .int .i64 0, .int .i64 0, .slice none 0 0] 75)).alloc (by simp) (.cells #[.string a, .int .i64 m, .int .i64 t, .string target] 103)
          have halm := hal.trans (hbm.mono hal.size)
          have HBM := Lib.hid (HBG.out.trans (halm.mono HBG.out.size))
          have HOM := Lib.hid (HOG.out.below halm)
          have HS5 := Lib.hid s5
          clear hal hbm halm
          go_wp2_with (at_builtin; refine wpList_appT rfl _ _ 46 9 rfl w.heap.size 5 Tryd.underlying46 Tryd.underlying9 infoU8 _ (acc ++ hd.data.toList).length (bytesV (acc ++ hd.data.toList)) rfl HOM.out v5 rfl (by have := HS5.out; have := HZZ.out; rw [List.length_append, ba_len]; omega) HBM.out.size ?_; intro vn wn hown hgn; have HON := Lib.hid (hown.app rfl); have HBN := Lib.hid (HBM.out.grown hgn HBM.out.size fun j hj => (HOM.out.lt j hj).1); clear hown hgn)
          go_roundw
          case rel => exact ⟨k + 1, acc ++ hd.data.toList ++ v5.data.toList, vn, rfl, by go_num, by omega, HON.out, by rw [HSN.out, HT.out, HAC.out, e5]; simp only [List.append_assoc], by have := HS5.out; have := HZZ.out; rw [List.length_append, List.length_append, ba_len, ba_len]; omega, HBN.out⟩
          case measure => simp [Go.RowKit.intOf]; omega
        · exact absurd hq (by rw [kindOk_of (by simp only; omega)]; simp)
      · obtain rfl : k = l.length := by omega
        have HJ := Lib.hid (show bs acc = bs (encN l) by rw [HAC.out, List.take_length]; rfl)
        have hcv := run_convert_T (P := Tryd.prog) 46 9 5 Tryd.underlying46 Tryd.underlying5 Tryd.underlying9 HO.out
        go_wp2
        go_ret2
        rw [HX.out, ← HJ.out]
        exact ⟨rfl, HBL.out⟩
  · have HX := Lib.hid (show encS l = noB from if_neg hc)
    have hne : (((chkN l : Nat) : Int) != 0) = true := by rw [bne_iff_ne]; omega
    clear hn hb he hc
    go_enter Tryd.func17, Tryd.ntmps17
    go_wp2_with fail
    refine HCK.out.mono ?_
    rintro e w1 ⟨rfl, hb1⟩
    go_wp2
    go_ret2
    rw [HX.out]
    exact ⟨rfl, hb1⟩
end Go.Proofs.YtaoejgnfoecpfaaDoor
namespace Go.Proofs.YtaoejgnfoecpfaaDoor
set_option linter.unusedVariables false
set_option linter.unusedSimpArgs false
set_option linter.unusedSectionVars false
open Go.RowKit

theorem own_emptyN {w : World} {B k : Nat} {t : TypeId} (h : B ≤ w.heap.size) : (w.alloc (.cells #[] t)).ownsRow B t k (.slice (some ⟨w.heap.size, 0, none⟩) 0 0) 0 [] :=
  ⟨by simp, .inr ⟨w.heap.size, 0, #[], rfl, h, heap_alloc_new w _, Nat.le_refl _, Nat.zero_le _, by simp, by simp⟩⟩
def ListPost (l : List Nr) (w : World) (e : Ending) (w' : World) : Prop :=
  ∃ A c, e = .returned (.slice A l.length c) ∧ RecsA w' A (l.map tell) ∧ l.length ≤ c ∧ Below w.heap.size w w'
set_option maxRecDepth 100000 in
set_option maxHeartbeats 3200000 in
theorem list_any (l : List Nr) (A : Option Addr) (c : Nat) (w : World) (h : NodesA w A l) (hc : ∀ x ∈ l, x.chunks.length ≤ 1000000) (hl : l.length ≤ 1000000) : Calls Tryd.prog 26 #[.slice A l.length c] w (ListPost l w) := by
  have HN := Lib.hid fun W (hb : Below w.heap.size w W) => h.below hb
  have HC := Lib.hid hc
  clear h hc
  go_enter Tryd.func26, Tryd.ntmps26
  go_wp2
  have hb0 := (Below.refl w.heap.size w).alloc (Nat.le_refl _) (.cells #[] 72)
  go_loopw [3, 5, 9] (fun ov nv i wr => ∃ (rs : List (Nr × Option Addr × Nat)) (B : Option Addr) (d : Nat) (u : Value), ov = .slice B rs.length d ∧ nv = u ∧ i = .int .i64 (rs.length : Nat) ∧ rs.length ≤ l.length ∧ rs.map (·.1) = (l.take rs.length).map tell ∧ rs.length ≤ d ∧ wr.ownsRow w.heap.size 72 7 (.slice B rs.length d) rs.length (recsC rs) ∧ RecsV wr (fun k => (Value.slice B rs.length d).ownBlock ≠ some k) rs ∧ Below w.heap.size w wr) (fun _ _ i _ => l.length - (intOf i).toNat)
  case atStart => exact ⟨[], some ⟨w.heap.size, 0, none⟩, 0, _, rfl, rfl, rfl, Nat.zero_le _, rfl, Nat.le_refl _, own_emptyN (Nat.le_refl _), fun r hr => absurd hr (by simp), hb0⟩
  case round =>
    obtain ⟨rs, B, d, u, rfl, rfl, rfl, hk, hrs, hcap, how, hrv, hbel⟩ := hrel
    have HO := Lib.hid how
    have HV := Lib.hid hrv
    have HB := Lib.hid hbel
    have HR := Lib.hid hrs
    clear how hrv hrs hb0
    by_cases hkl : rs.length < l.length
    · obtain ⟨g, o, rfl, hg, hcc⟩ := HN.out w (Below.refl _ _) (by omega)
      obtain ⟨u, hcu0, hiu⟩ := hcc rs.length l[rs.length] (List.getElem?_eq_getElem hkl)
      have hcu := (hbel.cell (p := ⟨g, o + rs.length, none⟩) hg).trans hcu0
      have HT := Lib.hid (told_any l[rs.length] u wr (hiu.below hbel) (HC.out _ (List.getElem_mem hkl)))
      have HR2 := Lib.hid (show (l.take (rs.length + 1)).map tell = (l.take rs.length).map tell ++ [tell l[rs.length]] by rw [List.take_succ_eq_append_getElem hkl, List.map_append]; rfl)
      clear hcc hcu0 hiu hbel
      generalize l[rs.length] = x at *
      have hk0 : (0 : Int) ≤ (rs.length : Int) := by omega
      have hki : (rs.length : Int) < (l.length : Int) := by omega
      have hk3 : ((rs.length : Int)).toNat = rs.length := by omega
      go_wp2_with fail
      refine HT.out.mono ?_
      rintro e w1 ⟨A1, c1, rfl, hst1, hnw1, hn1, hb1⟩
      have HO2 := Lib.hid (own_atN HO.out (w' := w1) fun i hi => hb1.block i (HO.out.lt i hi).2)
      have HV2 := Lib.hid (HV.out.keep (Q := fun k => (Value.slice B rs.length d).ownBlock ≠ some k) hb1.size fun k hk hl => ⟨hb1.block k hl, hk⟩)
      have HB2 := Lib.hid (HB.out.trans (hb1.mono HB.out.size))
      have HST := Lib.hid hst1
      have HNW := Lib.hid (show ∀ k o, A1 = some ⟨k, o, none⟩ → (Value.slice B rs.length d).ownBlock ≠ some k from fun k o e e2 => by have h1 := (HO.out.lt k e2).2; have h2 := hnw1 k o e; omega)
      clear hst1 hnw1 hb1
      generalize tell x = y at *
      unfold recC
      go_wp2_with (at_builtin; refine wpList_app1 rfl _ _ 22 rfl w.heap.size 72 Tryd.underlying22 infoRc rfl (by decide) _ _ _ rfl HO2.out _ rfl rfl (by simp [Value.oneCell']) (by omega) (by omega) HB2.out.size ?_)
      intro g5 cap5 w5 ho5 hg5 hb5 hl5
      have hcp : rs.length + 1 ≤ cap5 := by
        rcases ho5.2 with ⟨hv, _⟩ | ⟨g, cap, cur, hv, _, _, hc, _⟩
        · cases hv
        · injection hv with _ _ hv
          omega
      have HO5 := Lib.hid (show w5.ownsRow w.heap.size 72 7 (.slice (some ⟨g5, 0, none⟩) (rs ++ [(y, A1, c1)]).length cap5) (rs ++ [(y, A1, c1)]).length (recsC (rs ++ [(y, A1, c1)])) by
        rw [recsC_snoc]
        have := ho5
        simpa [recC] using this)
      have HB5 := Lib.hid (HB2.out.grown hg5 HB2.out.size fun j hj => (HO2.out.lt j hj).1)
      have HV5 := Lib.hid (show RecsV w5 (fun k => (Value.slice (some ⟨g5, 0, none⟩) (rs ++ [(y, A1, c1)]).length cap5).ownBlock ≠ some k) (rs ++ [(y, A1, c1)]) from by
        have h1 := HV2.out.snoc (r := (y, A1, c1)) HST.out (fun _ k o e => HNW.out k o e)
        refine h1.keep hg5.size fun k hk hl => ⟨hg5.block k hl (fun e => hk e.symm), fun e => ?_⟩
        simp only [Value.ownBlock, Option.some.injEq] at e
        subst e
        rcases hl5 with h | h
        · exact hk h
        · omega)
      clear ho5 hg5 hb5 hl5
      go_wp2
      go_roundw
      case rel => exact ⟨rs ++ [(y, A1, c1)], some ⟨g5, 0, none⟩, cap5, _, by simp, rfl, by first | rfl | (simp; done) | go_num, by simp; omega, by rw [List.length_append, List.length_singleton, HR2.out, List.map_append, HR.out]; rfl, by simpa using hcp, HO5.out, HV5.out, HB5.out⟩
      case measure => simp [intOf]; omega
    · have hke : rs.length = l.length := by omega
      have HX := Lib.hid (show RecsA wr B (l.map tell) by
        have h1 := HV.out.row HO.out
        rw [HR.out, hke, List.take_length] at h1
        exact h1)
      clear hkl
      go_wp2
      go_ret
      exact ⟨B, d, by rw [← hke]; rfl, HX.out, by omega, HB.out⟩
end Go.Proofs.YtaoejgnfoecpfaaDoor
namespace Go.Proofs.YtaoejgnfoecpfaaDoor
set_option linter.unusedVariables false
set_option linter.unusedSimpArgs false
set_option linter.unusedSectionVars false
open Go.RowKit

def n12 : Nr := ⟨1, ⟨#[97]⟩, 5, 9, 0, [], noB⟩
theorem chk12 : chkN [n12] = 0 := by decide +kernel
theorem enc12 : ((encS [n12]).toList == [1, 1, 1, 97, 5, 9]) = true := by decide +kernel
theorem dec12 : (decN ⟨#[0]⟩).1.length = 0 ∧ (decN ⟨#[0]⟩).2 = 0 := by decide +kernel
theorem sfew_any (s : ByteArray) (n : Nat) (w : World) : Calls Tryd.prog 22 #[.string s, .int .i64 n] w fun e w' => e = .returned (.string (s.extract 0 n)) ∧ w = w' := by
  by_cases h : n < s.size
  · have h1 : (n : Int) < (s.size : Int) := by omega
    go_enter Tryd.func22, Tryd.ntmps22
    go_wp2
    go_ret
    exact ⟨rfl, rfl⟩
  · have h1 : ¬ (n : Int) < (s.size : Int) := by omega
    have HE := Lib.hid (show s.extract 0 n = s by
      apply ba_inj
      rw [ext_take, List.take_of_length_le (by rw [ba_len]; omega)])
    go_enter Tryd.func22, Tryd.ntmps22
    go_wp2
    go_ret
    exact ⟨by rw [HE.out]; rfl, rfl⟩
theorem drop12 (s : ByteArray) (w : World) (he : Env w) (hs : s.size ≤ 1099511627776) (hk : (decN s).1.length = 0 ∧ (decN s).2 = 0) : Calls Tryd.prog 19 #[.string s] w fun e w' => ∃ A c, e = .returned (.tuple #[.slice A 0 c, .int .i64 0]) ∧ Below w.heap.size w w' :=
  (ndecode_any s w he hs).mono fun e w' ⟨A, c, h1, _, h3⟩ => ⟨A, c, by rw [h1, hk.1, hk.2]; rfl, h3⟩
set_option maxRecDepth 100000 in
set_option maxHeartbeats 800000 in
theorem awake12_any (w : World) (he : Env w) : Calls Tryd.prog 24 #[] w fun e w' => e = .returned (.bool true) ∧ Below w.heap.size w w' := by
  have hb0 : Below w.heap.size w (w.alloc (.cells #[folV ⟨#[97]⟩ 5 9] 35)) := (Below.refl _ w).alloc (Nat.le_refl _) _
  have HE := Lib.hid fun W (hb : Below w.heap.size w W) => he.below hb
  have HB0 := Lib.hid hb0
  have hst : NodesA (w.alloc (.cells #[folV ⟨#[97]⟩ 5 9] 35)) (some ⟨w.heap.size, 0, none⟩) [n12] := fun _ => ⟨w.heap.size, 0, rfl, by simp, fun j u hj => by
    have hc := (Blk.new w 35 #[folV ⟨#[97]⟩ 5 9]).cell j
    rw [Nat.zero_add, hc]
    match j, hj with
    | 0, hj => 
      simp at hj
      subst hj
      exact ⟨_, rfl, .inl ⟨rfl, rfl⟩⟩
    | j + 1, hj => simp at hj⟩
  have h1 := nencode_any [n12] (some ⟨w.heap.size, 0, none⟩) 1 _ (he.below hb0) hst (fun x hx => by
    obtain rfl := List.mem_singleton.1 hx
    exact ⟨by decide, by decide, by decide, by decide, by decide, by decide, by decide⟩) (by decide)
  rw [chk12] at h1
  rw [show [n12].length = 1 from rfl, show (((0 : Nat) : Nat) : Int) = 0 from rfl] at h1
  have e1 := enc12
  generalize encS [n12] = S at *
  have H1 := Lib.hid h1
  have H2 := Lib.hid fun W (h : Env W) => drop12 ⟨#[0]⟩ W h (by decide) dec12
  have H3 := Lib.hid fun W => kind_any (symV ⟨#[]⟩ 0 0 ⟨#[]⟩) ⟨3, ⟨#[]⟩, 0, 0, 0, [], ⟨#[]⟩⟩ W (.inr (.inr (.inl ⟨rfl, rfl⟩)))
  unfold folV at H1 HB0
  unfold symV at H3
  rw [show kindR ⟨3, ⟨#[]⟩, 0, 0, 0, [], ⟨#[]⟩⟩ = 3 from rfl] at H3
  clear h1 hst hb0 he
  go_enter Tryd.func24, Tryd.ntmps24
  go_wp2_with fail
  refine H1.out.mono ?_
  rintro e w1 ⟨rfl, hb1⟩
  have g1 := HB0.out.trans (hb1.mono HB0.out.size)
  go_wp2_with fail
  refine (H2.out w1 (HE.out _ g1)).mono ?_
  rintro e w2 ⟨A, c, rfl, hb2⟩
  have g2 := g1.trans (hb2.mono g1.size)
  go_wp2_with fail
  refine (H3.out _).mono ?_
  rintro e w3 ⟨rfl, rfl⟩
  go_wp2
  go_ret
  exact ⟨rfl, g2⟩
end Go.Proofs.YtaoejgnfoecpfaaDoor
namespace Go.Proofs.YtaoejgnfoecpfaaDoor
set_option linter.unusedVariables false
set_option linter.unusedSimpArgs false
set_option linter.unusedSectionVars false
open Go.RowKit

theorem blk_ptr {p : Value} {k : Nat} : ¬ NodeBlk (.iface 134 p) k := by
  rintro ⟨_, _, _, _, _, _, _, h, _⟩
  unfold plaV at h
  injection h with h1 h2
  exact absurd h1 (by decide)
def OfPost (x : Nr) (w : World) (e : Ending) (w' : World) : Prop :=
  ∃ v, e = .returned v ∧ NodeIs w' v x ∧ (∀ k, NodeBlk v k → w.heap.size ≤ k) ∧ Below w.heap.size w w' ∧ (x.kind = 4 → ∃ g, v = .iface 134 (.pointer (some ⟨g, 0, none⟩)) ∧ Blk w' g 26 #[.string x.at_, .int .i64 x.mode, .int .i64 x.time]) ∧ (kindOk x = false → x.kind ≠ 4 → v = .nilIface)
theorem rec5 {W : World} {b : Nat} {k : Int} {a tg : ByteArray} {m t z : Int} {A : Option Addr} {n c : Nat} (h : Blk W b 72 #[.int .i64 k, .string a, .int .i64 m, .int .i64 t, .int .i64 z, .slice A n c, .string tg]) : W.cell? ⟨b, 1, none⟩ = some (.string a) ∧ W.cell? ⟨b, 2, none⟩ = some (.int .i64 m) ∧ W.cell? ⟨b, 3, none⟩ = some (.int .i64 t) ∧ W.cell? ⟨b, 4, none⟩ = some (.int .i64 z) ∧ W.cell? ⟨b, 5, none⟩ = some (.slice A n c) := ⟨h.cell 1, h.cell 2, h.cell 3, h.cell 4, h.cell 5⟩
set_option maxRecDepth 100000 in
set_option maxHeartbeats 3200000 in
theorem of_any (x : Nr) (A : Option Addr) (c : Nat) (w : World) (hs : StrsA w w.heap.size A x.chunks) (hn : A = none → c = 0) (hc : x.chunks.length ≤ 1000000) : Calls Tryd.prog 41 #[.agg (recC x A c)] w (OfPost x w) := by
  obtain ⟨kind, a, m, t, z, ch, tg⟩ := x
  have hb1 := (Below.refl w.heap.size w).alloc (Nat.le_refl _) (.cells #[.int .i64 kind, .string a, .int .i64 m, .int .i64 t, .int .i64 z, .slice A ch.length c, .string tg] 72)
  have HB1 := Lib.hid hb1
  have HK1 := Lib.hid (Blk.new w 72 #[.int .i64 kind, .string a, .int .i64 m, .int .i64 t, .int .i64 z, .slice A ch.length c, .string tg])
  have HS1 := Lib.hid (hs.below hb1)
  clear hs hb1
  unfold recC
  by_cases k1 : kind = 1
  · subst k1
    go_enter Tryd.func41, Tryd.ntmps41
    go_wp2
    go_ret
    exact ⟨_, rfl, .inl ⟨rfl, rfl⟩, fun k h => absurd h blk_fol, HB1.out, fun h => absurd h (by simp), fun h => absurd h (by rw [kindOk_of (by simp only; omega)]; simp)⟩
  by_cases k2 : kind = 2
  · subst k2
    clear k1
    go_enter Tryd.func41, Tryd.ntmps41
    go_wp2
    generalize w.alloc (.cells #[.int .i64 2, .string a, .int .i64 m, .int .i64 t, .int .i64 z, .slice A ch.length c, .string tg] 72) = wp at *
    have HZ := Lib.hid (show w.heap.size < wp.heap.size from HK1.out.lt)
    go_region_held3 (fun W => W.cell? ⟨w.heap.size, 1, none⟩ = some (.string a) ∧ W.cell? ⟨w.heap.size, 2, none⟩ = some (.int .i64 m) ∧ W.cell? ⟨w.heap.size, 3, none⟩ = some (.int .i64 t) ∧ W.cell? ⟨w.heap.size, 4, none⟩ = some (.int .i64 z) ∧ W.cell? ⟨w.heap.size, 5, none⟩ = some (.slice A ch.length c))
      (first | with_reducible exact hk5s | with_reducible exact rec5 HK1.out | with_reducible exact rec5 (Blk.drew HK1.out) | with_reducible exact rec5 (Blk.alloc HK1.out _) | with_reducible exact rec5 (Blk.alloc (Blk.drew HK1.out) _) | with_reducible exact rec5 (Blk.drew (Blk.alloc HK1.out _)))
      (first
        | (refine step_appStrs (by rfl) _ _ (by rfl) (w.heap.size + 1) _ 0 [] (by rfl) ((own_empty (by have := HZ.out; omega)).drew) A c ch (by rfl) (HS1.out.below (((Below.refl wp.heap.size wp).alloc (Nat.le_refl _) _).drew)) hn (by omega) (by have := HZ.out; simp; omega) ?_; intro A' c' w5 hown5 hg5 hn5; have hk5 := (Blk.drew (Blk.alloc HK1.out (.cells #[] 9))).grown hg5 (by have := HZ.out; simp [Value.ownBlock]; omega); have hk5s := rec5 hk5))
    rw [Nat.zero_add, List.nil_append] at hown5
    have hst5 := (own_strs hown5).1
    have hlt5 := hown5.lt
    have hb5 := ((HB1.out.alloc HB1.out.size (.cells #[] 9)).drew).grown hg5 (by have := HB1.out.size; simp; omega) (fun k hk => by have := HZ.out; simp only [Value.ownBlock, Option.some.injEq] at hk; omega)
    go_wp2
    go_ret
    exact ⟨plaV a m t z A' ch.length c', by simp [plaV], .inr (.inl ⟨rfl, A', c', rfl, hst5, hn5⟩), fun k h => by
      obtain ⟨⟨o, e⟩, _⟩ := blk_pla h
      subst e
      have := (hlt5 k rfl).1
      omega, hb5, fun h => absurd h (by simp), fun h => absurd h (by rw [kindOk_of (by simp only; omega)]; simp)⟩
  by_cases k3 : kind = 3
  · subst k3
    clear k1 k2
    go_enter Tryd.func41, Tryd.ntmps41
    go_wp2
    go_ret
    exact ⟨_, rfl, .inr (.inr (.inl ⟨rfl, rfl⟩)), fun k h => absurd h blk_sym, HB1.out, fun h => absurd h (by simp), fun h => absurd h (by rw [kindOk_of (by simp only; omega)]; simp)⟩
  have hno : kindOk ⟨kind, a, m, t, z, ch, tg⟩ = false := by
    unfold kindOk
    simp only [Bool.and_eq_false_iff, decide_eq_false_iff_not]
    omega
  by_cases k4 : kind = 4
  · subst k4
    clear k1 k2 k3
    go_enter Tryd.func41, Tryd.ntmps41
    go_wp2
    go_ret
    exact ⟨_, rfl, .inr (.inr (.inr ⟨hno, .inr ⟨_, rfl⟩⟩)), fun k h => absurd h blk_ptr, HB1.out.alloc HB1.out.size _, fun _ => ⟨_, rfl, Blk.new2 w _ _ _⟩, fun _ h => absurd rfl h⟩
  · go_enter Tryd.func41, Tryd.ntmps41
    go_wp2
    go_ret
    exact ⟨_, rfl, .inr (.inr (.inr ⟨hno, .inl rfl⟩)), fun k h => absurd h blk_nil, HB1.out, fun h => absurd h k4, fun _ _ => rfl⟩
end Go.Proofs.YtaoejgnfoecpfaaDoor
namespace Go.Proofs.YtaoejgnfoecpfaaDoor
set_option linter.unusedVariables false
set_option linter.unusedSimpArgs false
set_option linter.unusedSectionVars false
open Go.RowKit

/-- a record cut to 20 chunks -/
def cutN (x : Nr) : Nr := ⟨x.kind, x.at_, x.mode, x.time, x.size, x.chunks.take 20, x.target⟩
/-- rows of records that came in -/
def RecsI (w : World) (A : Option Addr) (l : List Nr) : Prop := 0 < l.length → ∃ g o, A = some ⟨g, o, none⟩ ∧ g < w.heap.size ∧ ∀ (i : Nat) (x : Nr), l[i]? = some x → ∃ B c, (∀ (j : Nat) (u : Value), (recC x B c)[j]? = some u → w.cell? ⟨g, o + i * 7 + j, none⟩ = some u) ∧ StrsA w w.heap.size B x.chunks ∧ x.chunks.length ≤ c ∧ (B = none → c = 0)
theorem RecsI.below {w w' : World} {A : Option Addr} {l : List Nr} (h : RecsI w A l) (hb : Below w.heap.size w w') : RecsI w' A l := fun hl => by
  obtain ⟨g, o, rfl, hg, hc⟩ := h hl
  refine ⟨g, o, rfl, Nat.lt_of_lt_of_le hg hb.size, fun i x hi => ?_⟩
  obtain ⟨B, c, h1, h2, h3, h4⟩ := hc i x hi
  exact ⟨B, c, fun j u hj => (hb.cell (p := ⟨g, o + i * 7 + j, none⟩) hg).trans (h1 j u hj), h2.below hb, h3, h4⟩
theorem node_form {w : World} {v : Value} {x : Nr} (h : NodeIs w v x) : v = .nilIface ∨ ∃ t u, v = .iface t u := by
  rcases h with ⟨_, h⟩ | ⟨_, A, c', h, _, _⟩ | ⟨_, h⟩ | ⟨_, h | ⟨_, h⟩⟩
  · exact .inr ⟨_, _, h⟩
  · exact .inr ⟨_, _, h⟩
  · exact .inr ⟨_, _, h⟩
  · exact .inl h
  · exact .inr ⟨_, _, h⟩
def AllPost (l : List Nr) (w : World) (e : Ending) (w' : World) : Prop :=
  ∃ A c, e = .returned (.slice A ((l.take 210).map cutN).length c) ∧ NodesA w' A ((l.take 210).map cutN) ∧ Below w.heap.size w w'
set_option maxRecDepth 100000 in
set_option maxHeartbeats 3200000 in
theorem all_any (l : List Nr) (A : Option Addr) (c : Nat) (w : World) (h : RecsI w A l) (hl : l.length ≤ 140737488355328) : Calls Tryd.prog 18 #[.slice A l.length c] w (AllPost l w) := by
  have HN := Lib.hid fun W (hb : Below w.heap.size w W) => h.below hb
  clear h
  go_enter Tryd.func18, Tryd.ntmps18
  go_wp2
  have hb0 := (Below.refl w.heap.size w).alloc (Nat.le_refl _) (.cells #[] 35)
  go_loopw [3, 4, 5] (fun ov iv pv wr => ∃ (k : Nat) (vs : List Value) (B : Option Addr) (d : Nat) (u : Value), ov = .slice B k d ∧ iv = .int .i64 (k : Nat) ∧ pv = u ∧ k ≤ l.length ∧ k ≤ 210 ∧ vs.length = k ∧ wr.ownsRow w.heap.size 35 1 (.slice B k d) k vs ∧ NodesV wr (fun j => (Value.slice B k d).ownBlock ≠ some j) vs ((l.take k).map cutN) ∧ Below w.heap.size w wr) (fun _ iv _ _ => l.length - (intOf iv).toNat)
  case atStart => exact ⟨0, [], some ⟨w.heap.size, 0, none⟩, 0, _, rfl, rfl, rfl, Nat.zero_le _, Nat.zero_le _, rfl, own_emptyN (Nat.le_refl _), fun i x hx => by simp at hx, hb0⟩
  case round =>
    obtain ⟨k, vs, B, d, u, rfl, rfl, rfl, hk, hk10, hvl, how, hnv, hbel⟩ := hrel
    have HO := Lib.hid how
    have HV := Lib.hid hnv
    have HB := Lib.hid hbel
    clear how hnv hb0
    by_cases hkl : k < l.length ∧ k < 210
    · obtain ⟨hkl, hk2⟩ := hkl
      obtain ⟨g, o, rfl, hg, hcc⟩ := HN.out wr hbel (by omega)
      obtain ⟨X, cx, hcx, hsx, hlx, hnx⟩ := hcc k l[k] (List.getElem?_eq_getElem hkl)
      have HR2 := Lib.hid (show (l.take (k + 1)).map cutN = (l.take k).map cutN ++ [cutN l[k]] by rw [List.take_succ_eq_append_getElem hkl, List.map_append]; rfl)
      clear hcc hbel
      generalize l[k] = x at *
      obtain ⟨kind, a, m, t, z, ch, tg⟩ := x
      have q0 : wr.cell? ⟨g, o + k * 7, none⟩ = some (.int .i64 kind) := hcx 0 _ rfl
      have q1 : wr.cell? ⟨g, o + k * 7 + 1, none⟩ = some (.string a) := hcx 1 _ rfl
      have q2 : wr.cell? ⟨g, o + k * 7 + 2, none⟩ = some (.int .i64 m) := hcx 2 _ rfl
      have q3 : wr.cell? ⟨g, o + k * 7 + 3, none⟩ = some (.int .i64 t) := hcx 3 _ rfl
      have q4 : wr.cell? ⟨g, o + k * 7 + 4, none⟩ = some (.int .i64 z) := hcx 4 _ rfl
      have q5 : wr.cell? ⟨g, o + k * 7 + 5, none⟩ = some (.slice X ch.length cx) := hcx 5 _ rfl
      have q6 : wr.cell? ⟨g, o + k * 7 + 6, none⟩ = some (.string tg) := hcx 6 _ rfl
      have hk0 : (0 : Int) ≤ (k : Int) := by omega
      have hki : (k : Int) < (l.length : Int) := by omega
      have hk210 : (k : Int) < 210 := by omega
      have hk3 : ((k : Int)).toNat = k := by omega
      clear hcx
      by_cases h20 : 20 < ch.length
      · obtain ⟨bx, ox, rfl, hbx, hcb⟩ := hsx (by show 0 < ch.length; omega)
        have h20i : (20 : Int) < (ch.length : Int) := by omega
        simp only at hlx
        have HT := Lib.hid fun W (hb : Below wr.heap.size wr W) => (by
          have h1 := of_any ⟨kind, a, m, t, z, ch.take 20, tg⟩ (some ⟨bx, ox, none⟩) cx W (StrsA.below (W := wr) (fun _ => ⟨bx, ox, rfl, hbx, fun j u hj => hcb j u (by
            rw [List.getElem?_take] at hj
            split at hj
            · exact hj
            · cases hj)⟩) hb) (fun h => by cases h) (by simp only [List.length_take]; omega)
          unfold recC at h1
          simp only [List.length_take, Nat.min_eq_left (Nat.le_of_lt h20)] at h1
          exact h1 : Calls Tryd.prog 41 #[.agg #[.int .i64 kind, .string a, .int .i64 m, .int .i64 t, .int .i64 z, .slice (some ⟨bx, ox, none⟩) 20 cx, .string tg]] W (OfPost (cutN ⟨kind, a, m, t, z, ch, tg⟩) W))
        clear hcb hsx
        go_wp2_with fail
        refine (HT.out _ (((Below.refl wr.heap.size wr).alloc (Nat.le_refl _) _))).mono ?_
        rintro e w2 ⟨v, rfl, hv2, hnb2, hb2, _, _⟩
        have hb3 : Below wr.heap.size wr w2 := (((Below.refl wr.heap.size wr).alloc (Nat.le_refl _) _)).trans (hb2.mono (by simp))
        have hnw : ∀ j, NodeBlk v j → (Value.slice B k d).ownBlock ≠ some j := fun j hj e => by
          have h1 := hnb2 j hj
          have h2 := (HO.out.lt j e).2
          simp at h1
          omega
        have HO2 := Lib.hid (own_atN HO.out (w' := w2) fun i hi => hb3.block i (HO.out.lt i hi).2)
        have HV2 := Lib.hid (((HV.out.keep (Q := fun j => (Value.slice B k d).ownBlock ≠ some j) hb3.size fun k hk hl => ⟨hb3.block k hl, hk⟩).snoc (by rw [List.length_map, List.length_take]; omega) hv2 hnw))
        have HB2 := Lib.hid (HB.out.trans (hb3.mono HB.out.size))
        have hvf := node_form hv2
        clear hv2 hnb2 hb2 hb3 hnw
        rcases hvf with rfl | ⟨t1, u1, rfl⟩
        all_goals
          go_wp2_with (at_builtin; refine wpList_app1 rfl _ _ 30 rfl w.heap.size 35 Tryd.underlying30 infoNd rfl (by decide) _ _ _ rfl HO2.out _ rfl rfl (by simp [Value.oneCell']) (by omega) (by omega) HB2.out.size ?_)
          intro g5 cap5 w5 ho5 hg5 hb5 hl5
          have HB5 := Lib.hid (HB2.out.grown hg5 HB2.out.size fun j hj => (HO2.out.lt j hj).1)
          have HV5 := Lib.hid (HV2.out.keep (Q := fun j => (Value.slice (some ⟨g5, 0, none⟩) (k + 1) cap5).ownBlock ≠ some j) hg5.size fun j hk hl => ⟨hg5.block j hl (fun e => hk e.symm), fun e => by
            simp only [Value.ownBlock, Option.some.injEq] at e
            subst e
            rcases hl5 with h | h
            · exact hk h
            · omega⟩)
          have HO5 := Lib.hid ho5
          clear ho5 hg5 hb5 hl5
          go_wp2
          go_roundw
          case rel => exact ⟨k + 1, _, some ⟨g5, 0, none⟩, cap5, _, rfl, by go_num, rfl, by omega, by omega, by simp [hvl], HO5.out, by rw [HR2.out]; exact HV5.out, HB5.out⟩
          case measure => simp [intOf]; omega
      · have h20i : ¬ (20 : Int) < (ch.length : Int) := by omega
        have HT := Lib.hid fun W (hb : Below wr.heap.size wr W) => (by
          have h1 := of_any ⟨kind, a, m, t, z, ch, tg⟩ X cx W (hsx.below hb) hnx (by show ch.length ≤ 1000000; omega)
          unfold recC at h1
          have e : cutN ⟨kind, a, m, t, z, ch, tg⟩ = ⟨kind, a, m, t, z, ch, tg⟩ := by unfold cutN; simp only; rw [List.take_of_length_le (by omega)]
          rw [e]
          exact h1 : Calls Tryd.prog 41 #[.agg #[.int .i64 kind, .string a, .int .i64 m, .int .i64 t, .int .i64 z, .slice X ch.length cx, .string tg]] W (OfPost (cutN ⟨kind, a, m, t, z, ch, tg⟩) W))
        clear hsx
        go_wp2_with fail
        refine (HT.out _ (((Below.refl wr.heap.size wr).alloc (Nat.le_refl _) _))).mono ?_
        rintro e w2 ⟨v, rfl, hv2, hnb2, hb2, _, _⟩
        have hb3 : Below wr.heap.size wr w2 := (((Below.refl wr.heap.size wr).alloc (Nat.le_refl _) _)).trans (hb2.mono (by simp))
        have hnw : ∀ j, NodeBlk v j → (Value.slice B k d).ownBlock ≠ some j := fun j hj e => by
          have h1 := hnb2 j hj
          have h2 := (HO.out.lt j e).2
          simp at h1
          omega
        have HO2 := Lib.hid (own_atN HO.out (w' := w2) fun i hi => hb3.block i (HO.out.lt i hi).2)
        have HV2 := Lib.hid (((HV.out.keep (Q := fun j => (Value.slice B k d).ownBlock ≠ some j) hb3.size fun k hk hl => ⟨hb3.block k hl, hk⟩).snoc (by rw [List.length_map, List.length_take]; omega) hv2 hnw))
        have HB2 := Lib.hid (HB.out.trans (hb3.mono HB.out.size))
        have hvf := node_form hv2
        clear hv2 hnb2 hb2 hb3 hnw
        rcases hvf with rfl | ⟨t1, u1, rfl⟩
        all_goals
          go_wp2_with (at_builtin; refine wpList_app1 rfl _ _ 30 rfl w.heap.size 35 Tryd.underlying30 infoNd rfl (by decide) _ _ _ rfl HO2.out _ rfl rfl (by simp [Value.oneCell']) (by omega) (by omega) HB2.out.size ?_)
          intro g5 cap5 w5 ho5 hg5 hb5 hl5
          have HB5 := Lib.hid (HB2.out.grown hg5 HB2.out.size fun j hj => (HO2.out.lt j hj).1)
          have HV5 := Lib.hid (HV2.out.keep (Q := fun j => (Value.slice (some ⟨g5, 0, none⟩) (k + 1) cap5).ownBlock ≠ some j) hg5.size fun j hk hl => ⟨hg5.block j hl (fun e => hk e.symm), fun e => by
            simp only [Value.ownBlock, Option.some.injEq] at e
            subst e
            rcases hl5 with h | h
            · exact hk h
            · omega⟩)
          have HO5 := Lib.hid ho5
          clear ho5 hg5 hb5 hl5
          go_wp2
          go_roundw
          case rel => exact ⟨k + 1, _, some ⟨g5, 0, none⟩, cap5, _, rfl, by go_num, rfl, by omega, by omega, by simp [hvl], HO5.out, by rw [HR2.out]; exact HV5.out, HB5.out⟩
          case measure => simp [intOf]; omega
    · have hcs : ¬ (k : Int) < (l.length : Int) ∨ ((k : Int) < (l.length : Int) ∧ ¬ (k : Int) < 210) := by omega
      have hte : l.take k = l.take 210 := by
        rcases Nat.lt_or_ge k 210 with h | h
        · rw [List.take_of_length_le (by omega), List.take_of_length_le (by omega)]
        · rw [show k = 210 by omega]
      have hlen : ((l.take 210).map cutN).length = k := by rw [← hte, List.length_map, List.length_take]; omega
      have HX := Lib.hid (show NodesA wr B ((l.take 210).map cutN) by
        rw [← hte]
        exact HV.out.row HO.out)
      clear hkl hte
      rcases hcs with h1 | ⟨h1, h2⟩
      all_goals
        go_wp2
        go_ret
        exact ⟨B, d, by rw [hlen]; rfl, HX.out, HB.out⟩
end Go.Proofs.YtaoejgnfoecpfaaDoor
namespace Go.Proofs.YtaoejgnfoecpfaaDoor
set_option linter.unusedVariables false
set_option linter.unusedSimpArgs false
set_option linter.unusedSectionVars false
open Go.RowKit

theorem NodeIs.tell {w : World} {v : Value} {x : Nr} (h : NodeIs w v x) : NodeIs w v (tell x) := by
  rcases h with ⟨h, rfl⟩ | ⟨h, A, c, rfl, h2, h3⟩ | ⟨h, rfl⟩ | ⟨h, h2⟩
  · exact .inl (by unfold Go.Proofs.YtaoejgnfoecpfaaDoor.tell; rw [if_pos h]; exact ⟨rfl, rfl⟩)
  · refine .inr (.inl ?_)
    unfold Go.Proofs.YtaoejgnfoecpfaaDoor.tell
    rw [if_neg (by omega), if_pos h]
    exact ⟨rfl, A, c, rfl, h2, h3⟩
  · refine .inr (.inr (.inl ?_))
    unfold Go.Proofs.YtaoejgnfoecpfaaDoor.tell
    rw [if_neg (by omega), if_neg (by omega), if_pos h]
    exact ⟨rfl, rfl⟩
  · refine .inr (.inr (.inr ⟨?_, h2⟩))
    unfold kindOk at h
    simp only [Bool.and_eq_false_iff, decide_eq_false_iff_not] at h
    unfold Go.Proofs.YtaoejgnfoecpfaaDoor.tell
    rw [if_neg (by omega), if_neg (by omega), if_neg (by omega)]
    rfl
theorem NodesA.tell {w : World} {A : Option Addr} {l : List Nr} (h : NodesA w A l) : NodesA w A (l.map tell) := fun hl => by
  rw [List.length_map] at hl
  obtain ⟨g, o, e, hg, hc⟩ := h hl
  refine ⟨g, o, e, hg, fun i x hx => ?_⟩
  rw [List.getElem?_map] at hx
  obtain ⟨y, hy, rfl⟩ := Option.map_eq_some_iff.1 hx
  obtain ⟨v, h1, h2⟩ := hc i y hy
  exact ⟨v, h1, h2.tell⟩
theorem tell_is_pure (x : Nr) : PureN (tell x) := by
  unfold tell
  split
  · exact ⟨fun _ => ⟨rfl, rfl⟩, fun _ => rfl⟩
  split
  · exact ⟨fun h => absurd rfl h, fun _ => rfl⟩
  split
  · exact ⟨fun _ => ⟨rfl, rfl⟩, fun h => absurd rfl h⟩
  · exact ⟨fun _ => ⟨rfl, rfl⟩, fun _ => rfl⟩
theorem tell_tell (x : Nr) : tell (tell x) = tell x := by
  have h : ∀ y : Nr, y.kind = (tell x).kind → y = tell x → tell y = y := fun y h1 h2 => by
    subst h2
    by_cases hk : kindOk (tell x) = true
    · exact tell_pure hk (tell_is_pure x)
    · unfold tell at hk ⊢
      by_cases k1 : x.kind = 1
      · simp [k1]
      by_cases k2 : x.kind = 2
      · simp [k2]
      by_cases k3 : x.kind = 3
      · simp [k3]
      · simp [k1, k2, k3]
  exact h _ rfl rfl
/-- what the program makes of the records that came in -/
def inN (l : List Nr) : List Nr := ((l.take 210).map cutN).map tell
theorem inN_len (l : List Nr) : (inN l).length = ((l.take 210).map cutN).length := by unfold inN; rw [List.length_map]
theorem inN_le (l : List Nr) : (inN l).length ≤ 210 := by unfold inN; simp only [List.length_map, List.length_take]; omega
theorem inN_tell (l : List Nr) : (inN l).map tell = inN l := by
  unfold inN
  rw [List.map_map]
  exact List.map_congr_left fun x _ => tell_tell x
theorem inN_pure (l : List Nr) : ∀ x ∈ inN l, PureN x := fun x hx => by
  obtain ⟨y, _, rfl⟩ := List.mem_map.1 hx
  exact tell_is_pure y
theorem inN_bnd {l : List Nr} (h : ∀ x ∈ l, NrB x) : ∀ x ∈ inN l, NrB x ∧ x.chunks.length ≤ 20 := fun x hx => by
  obtain ⟨y, hy, rfl⟩ := List.mem_map.1 hx
  obtain ⟨z, hz, rfl⟩ := List.mem_map.1 hy
  obtain ⟨b1, b2, b3, b4, b5, b6, b7⟩ := h z (List.mem_of_mem_take hz)
  unfold tell cutN
  simp only
  split
  · exact ⟨⟨b1, Nat.zero_le _, Nat.zero_le _, fun c hc => absurd hc (by simp), (show (-9223372036854775808 : Int) ≤ 0 ∧ (0 : Int) ≤ 9223372036854775807 by decide), b6, b7⟩, Nat.zero_le _⟩
  split
  · exact ⟨⟨b1, Nat.zero_le _, by simp only [List.length_take]; omega, fun c hc => b4 c (List.mem_of_mem_take hc), b5, b6, b7⟩, by simp only [List.length_take]; omega⟩
  split
  · exact ⟨⟨b1, b2, Nat.zero_le _, fun c hc => absurd hc (by simp), (show (-9223372036854775808 : Int) ≤ 0 ∧ (0 : Int) ≤ 9223372036854775807 by decide), b6, b7⟩, Nat.zero_le _⟩
  · exact ⟨⟨Nat.zero_le _, Nat.zero_le _, Nat.zero_le _, fun c hc => absurd hc (by simp), by decide, by decide, by decide⟩, Nat.zero_le _⟩
theorem allIn_any (l : List Nr) (A : Option Addr) (c : Nat) (w : World) (h : RecsI w A l) (hl : l.length ≤ 140737488355328) : Calls Tryd.prog 18 #[.slice A l.length c] w fun e w' => ∃ A c, e = .returned (.slice A (inN l).length c) ∧ NodesA w' A (inN l) ∧ Below w.heap.size w w' :=
  (all_any l A c w h hl).mono fun e w' ⟨A, c, h1, h2, h3⟩ => ⟨A, c, by rw [h1, inN_len], h2.tell, h3⟩
end Go.Proofs.YtaoejgnfoecpfaaDoor
namespace Go.Proofs.YtaoejgnfoecpfaaDoor
set_option linter.unusedVariables false
set_option linter.unusedSimpArgs false
set_option linter.unusedSectionVars false
open Go.RowKit

theorem catN_len : ∀ (l : List ByteArray), (∀ c ∈ l, c.size = 32) → (catN l).length = 32 * l.length
  | [], _ => rfl
  | c :: r, h => by
    have e : catN (c :: r) = c.data.toList ++ catN r := rfl
    rw [e, List.length_append, ba_len, h c (by simp), catN_len r fun x hx => h x (by simp [hx]), List.length_cons]
    omega
theorem varL_le (n : Nat) : (varL n).length ≤ 11 := (varF_len 10 n).2
theorem txt_size {x : Nr} (h : fitN x = 0) : (txtN x).length ≤ 2000000 := by
  obtain ⟨kk, m, t, hk, hkk, hm, _, ht, _, ha, h2, h3⟩ := fit_nums h
  have v1 := varL_le x.kind.toNat
  have v2 := varL_le x.mode.toNat
  have v3 := varL_le x.time.toNat
  have v4 := varL_le x.at_.size
  have v5 : (tailN x).length ≤ 1048620 := by
    rcases hkk with rfl | rfl | rfl
    · rw [tailN_1 hk]; exact Nat.zero_le _
    · obtain ⟨z, _, z2, z3, z4⟩ := h2 rfl
      have u1 := varL_le x.size.toNat
      have u2 := varL_le x.chunks.length
      rw [tailN_2 hk]
      simp only [List.length_append, catN_len _ z4]
      omega
    · have u1 := varL_le x.target.size
      have := h3 rfl
      rw [tailN_3 hk]
      unfold textL
      simp only [List.length_append, ba_len]
      omega
  unfold txtN textL
  simp only [List.length_append, ba_len]
  omega
theorem body_size : ∀ (l : List Nr), (∀ x ∈ l, fitN x = 0) → (bodyN l).length ≤ 2000000 * l.length
  | [], _ => Nat.le_refl _
  | x :: r, h => by
    have e : bodyN (x :: r) = txtN x ++ bodyN r := rfl
    have h1 := txt_size (h x (by simp))
    have h2 := body_size r fun y hy => h y (by simp [hy])
    rw [e, List.length_append, List.length_cons]
    omega
theorem enc_size {l : List Nr} (h : chkN l = 0) : (bs (encN l)).size ≤ 400000011 := by
  obtain ⟨h1, h2⟩ := chk_fit h
  have h3 := body_size l h2
  have h4 := varL_le l.length
  rw [bs_size]
  unfold encN
  rw [List.length_append]
  omega
theorem bs_snoc (l : List UInt8) (c : UInt8) : bs l ++ ⟨#[c]⟩ = bs (l ++ [c]) := by
  apply ba_inj
  rw [ByteArray.data_append, Array.toList_append, bs_list, bs_list]
theorem run_str1 {P : Program} (w : World) (src dst e : TypeId) (hs : P.underlying src = some (.slice e)) (he : P.underlying e = some (.int .u8)) (hd : P.underlying dst = some .string) (a : UInt8) : (convert src dst (.slice (some ⟨w.heap.size, 0, none⟩) 1 1)).run P (w.alloc (.cells #[.int .u8 a.toNat] e)) = .ok (.string ⟨#[a]⟩) (w.alloc (.cells #[.int .u8 a.toNat] e)) :=
  run_convert_bytes_back _ src dst e ⟨w.heap.size, 0, none⟩ 1 [a] hs he hd (fun j hj => by
    have hc := (Blk.new w e #[.int .u8 a.toNat]).cell j
    rw [addr_add, Nat.zero_add, hc]
    match j, hj with
    | 0, _ => rfl)
set_option maxRecDepth 100000 in
set_option maxHeartbeats 3200000 in
theorem nunlike_all (a b : List Nr) (cb : UInt8) (A B : Option Addr) (c d : Nat) (w : World) (he : Env w) (ha : RecsI w A a) (hb : RecsI w B b) (la : a.length ≤ 140737488355328) (lb : b.length ≤ 140737488355328) (ba : ∀ x ∈ a, NrB x) (bb : ∀ x ∈ b, NrB x) :
    Calls Tryd.prog 6 #[.slice A a.length c, .slice B b.length d, .int .u8 cb.toNat] w fun e w' => e = .returned (.bool true) ∧ Below w.heap.size w w' := by
  have HE := Lib.hid fun W (hb : Below w.heap.size w W) => he.below hb
  have HAW := Lib.hid fun W (h : Env W) => awake12_any W h
  have HA := Lib.hid fun W (h : Below w.heap.size w W) => allIn_any a A c W (ha.below h) la
  have HB := Lib.hid fun W (h : Below w.heap.size w W) => allIn_any b B d W (hb.below h) lb
  have HBA := Lib.hid (inN_bnd ba)
  have HBB := Lib.hid (inN_bnd bb)
  have HPA := Lib.hid (inN_pure a)
  have HPB := Lib.hid (inN_pure b)
  have HTA := Lib.hid (inN_tell a)
  have HTB := Lib.hid (inN_tell b)
  have hla := inN_le a
  have hlb := inN_le b
  clear he ha hb ba bb
  generalize inN a = p at *
  generalize inN b = q at *
  go_enter Tryd.func6, Tryd.ntmps6
  go_wp2_with fail
  refine (HA.out _ (Below.refl _ _)).mono ?_
  rintro e w1 ⟨X, cx, rfl, hx, hb1⟩
  go_wp2_with fail
  refine (HB.out _ hb1).mono ?_
  rintro e w2 ⟨Y, cy, rfl, hy, hb2⟩
  have HX2 := Lib.hid (hx.below hb2)
  have HY2 := Lib.hid hy
  have HB2 := Lib.hid (hb1.trans (hb2.mono hb1.size))
  clear hx hy hb1 hb2 HA HB
  go_wp2_with fail
  refine (nencode_any p X cx w2 (HE.out _ HB2.out) HX2.out (fun x hx => (HBA.out x hx).1) (by omega)).mono ?_
  rintro e w3 ⟨rfl, hb3⟩
  have HX3 := Lib.hid (HX2.out.below hb3)
  have HY3 := Lib.hid (HY2.out.below hb3)
  have HB3 := Lib.hid (HB2.out.trans (hb3.mono HB2.out.size))
  clear hb3 HX2 HY2 HB2
  go_wp2_with fail
  refine (nencode_any q Y cy w3 (HE.out _ HB3.out) HY3.out (fun x hx => (HBB.out x hx).1) (by omega)).mono ?_
  rintro e w4 ⟨rfl, hb4⟩
  have HX4 := Lib.hid (HX3.out.below hb4)
  have HY4 := Lib.hid (HY3.out.below hb4)
  have HB4 := Lib.hid (HB3.out.trans (hb4.mono HB3.out.size))
  clear hb4 HX3 HY3 HB3
  by_cases hp : chkN p = 0
  · by_cases hq : chkN q = 0
    · have hsp : encS p = bs (encN p) := if_pos hp
      have hsq : encS q = bs (encN q) := if_pos hq
      have hzp := enc_size hp
      have HSAME := Lib.hid (show ((bs (encN p)).toList == (bs (encN q)).toList) = decide (p = q) by
        rw [txt_ne]
        refine decide_eq_decide.2 ⟨fun e => ?_, fun e => by rw [e]⟩
        have e2 : encN p = encN q := by rw [← bs_list (encN p), e, bs_list]
        exact encN_inj hp hq HPA.out HPB.out e2)
      have hmo := decN_more hp HPA.out cb
      rw [← bs_snoc] at hmo
      have HMORE := Lib.hid hmo
      rw [hp, hq, hsp, hsq]
      generalize bs (encN p) = s1 at *
      generalize bs (encN q) = s2 at *
      have hcv := run_str1 (P := Tryd.prog) w4 46 9 5 Tryd.underlying46 Tryd.underlying5 Tryd.underlying9 cb
      have hz1 : (⟨#[cb]⟩ : ByteArray).size = 1 := rfl
      have hcat := fun W => run_string_add_sum (P := Tryd.prog) W s1 ⟨#[cb]⟩ (by omega)
      have HD := Lib.hid fun W (h : Env W) => ndecode_any (s1 ++ ⟨#[cb]⟩) W h (by rw [ByteArray.size_append]; omega)
      clear hmo
      have HA5 := Lib.hid ((HB4.out.alloc HB4.out.size (.cells #[.int .u8 cb.toNat] 5)))
      have HX5 := Lib.hid (HX4.out.below ((Below.refl _ w4).alloc (Nat.le_refl _) (.cells #[.int .u8 cb.toNat] 5)))
      have HY5 := Lib.hid (HY4.out.below ((Below.refl _ w4).alloc (Nat.le_refl _) (.cells #[.int .u8 cb.toNat] 5)))
      go_wp2_with fail
      refine (HD.out _ (HE.out _ HA5.out)).mono ?_
      rintro e w5 ⟨D, cd, rfl, _, hb5⟩
      have HX6 := Lib.hid (HX5.out.below hb5)
      have HY6 := Lib.hid (HY5.out.below hb5)
      have HB6 := Lib.hid (HA5.out.trans (hb5.mono HA5.out.size))
      rw [HMORE.out]
      clear hb5 HX5 HY5 HA5 HX4 HY4 HB4 hcv hcat
      go_wp2_with fail
      refine (HAW.out _ (HE.out _ HB6.out)).mono ?_
      rintro e w6 ⟨rfl, hb6⟩
      have HX7 := Lib.hid (HX6.out.below hb6)
      have HY7 := Lib.hid (HY6.out.below hb6)
      have HB7 := Lib.hid (HB6.out.trans (hb6.mono HB6.out.size))
      clear hb6 HX6 HY6 HB6
      go_wp2_with fail
      refine (list_any p X cx w6 HX7.out (fun x hx => Nat.le_trans (HBA.out x hx).2 (by decide)) (by omega)).mono ?_
      rintro e w7 ⟨E, ce, rfl, hr7, hg7, hb7⟩
      rw [HTA.out] at hr7
      have HY8 := Lib.hid (HY7.out.below hb7)
      have HB8 := Lib.hid (HB7.out.trans (hb7.mono HB7.out.size))
      have HR8 := Lib.hid hr7
      clear hb7 HX7 HY7 HB7 hr7
      go_wp2_with fail
      refine (list_any q Y cy w7 HY8.out (fun x hx => Nat.le_trans (HBB.out x hx).2 (by decide)) (by omega)).mono ?_
      rintro e w8 ⟨F, cf, rfl, hr9, hg9, hb9⟩
      rw [HTB.out] at hr9
      have HR9 := Lib.hid (HR8.out.below hb9)
      have HB9 := Lib.hid (HB8.out.trans (hb9.mono HB8.out.size))
      have HS9 := Lib.hid hr9
      clear hb9 HY8 HB8 HR8 hr9
      go_wp2_with fail
      refine (nsame_any p q E F ce cf w8 HR9.out HS9.out (by omega) (fun x hx => Nat.le_trans (HBA.out x hx).2 (by decide))).mono ?_
      rintro e w9 ⟨rfl, hb10⟩
      have HS := HSAME.out
      by_cases hpq : p = q
      · rw [decide_eq_true hpq] at HS ⊢
        go_wp2
        go_ret
        exact ⟨rfl, HB9.out.trans (hb10.mono HB9.out.size)⟩
      · rw [decide_eq_false hpq] at HS ⊢
        go_wp2
        go_ret
        exact ⟨rfl, HB9.out.trans (hb10.mono HB9.out.size)⟩
    · have hsq : encS q = noB := if_neg hq
      have hne : (((chkN q : Nat) : Int) != 0) = true := by rw [bne_iff_ne]; omega
      have hne2 : (((chkN q : Nat) : Int) == 0) = false := by rw [beq_eq_false_iff_ne]; omega
      rw [hp, hsq]
      unfold noB
      go_wp2_with fail
      refine (HAW.out _ (HE.out _ HB4.out)).mono ?_
      rintro e w5 ⟨rfl, hb5⟩
      go_wp2
      go_ret
      exact ⟨rfl, HB4.out.trans (hb5.mono HB4.out.size)⟩
  · have hsp : encS p = noB := if_neg hp
    have hne : (((chkN p : Nat) : Int) != 0) = true := by rw [bne_iff_ne]; omega
    have hne2 : (((chkN p : Nat) : Int) == 0) = false := by rw [beq_eq_false_iff_ne]; omega
    rw [hsp]
    unfold noB
    by_cases hq : chkN q = 0
    · rw [hq]
      go_wp2_with fail
      refine (HAW.out _ (HE.out _ HB4.out)).mono ?_
      rintro e w5 ⟨rfl, hb5⟩
      go_wp2
      go_ret
      exact ⟨rfl, HB4.out.trans (hb5.mono HB4.out.size)⟩
    · have hsq : encS q = noB := if_neg hq
      have hne3 : (((chkN q : Nat) : Int) == 0) = false := by rw [beq_eq_false_iff_ne]; omega
      rw [hsq]
      unfold noB
      go_wp2_with fail
      refine (HAW.out _ (HE.out _ HB4.out)).mono ?_
      rintro e w5 ⟨rfl, hb5⟩
      go_wp2
      go_ret
      exact ⟨rfl, HB4.out.trans (hb5.mono HB4.out.size)⟩
end Go.Proofs.YtaoejgnfoecpfaaDoor
namespace Go.Proofs.YtaoejgnfoecpfaaDoor
set_option linter.unusedVariables false
set_option linter.unusedSimpArgs false
set_option linter.unusedSectionVars false
open Go.RowKit

set_option maxRecDepth 100000 in
set_option maxHeartbeats 6400000 in
theorem rfit_big (x : Nr) (A : Option Addr) (c : Nat) (w : World) (hst : StrsA w w.heap.size A x.chunks) (hat : x.at_.size ≤ 1100000) (htg : x.target.size ≤ 140737488355328) (hch : x.chunks.length ≤ 140737488355328) :
    Calls Tryd.prog 84 #[.agg (recC x A c)] w fun e w' => e = .returned (.int .i64 (fitN x : Nat)) ∧ Below w.heap.size w w' := by
  have HB0 := Lib.hid ((Below.refl w.heap.size w).alloc (Nat.le_refl _) (.cells (recC x A c) 72))
  have HK0 := Lib.hid (Blk.new w 72 (recC x A c))
  have HIS := Lib.hid fun W => refis_big x.at_ W hat
  have HTG := Lib.hid fun W => rtarget_any x.target W htg
  have HST := Lib.hid hst
  have FK := Lib.hid fun (h : kindOk x = false) => (show fitN x = 12 by unfold fitN; rw [if_pos h])
  have FP := Lib.hid fun (h : kindOk x = true) => fit_path h
  have FF := Lib.hid fun (h : kindOk x = true) => fit_form h
  have FO := Lib.hid fun (h : kindOk x = true) => fit_ok h
  have FM := Lib.hid fun h1 => form_mt (x := x) h1
  have F1 := Lib.hid fun h1 h => form_one (x := x) h1 h
  have F2 := Lib.hid fun h1 h => form_two (x := x) h1 h
  have F3 := Lib.hid fun h1 h => form_three (x := x) h1 h
  have MT := Lib.hid (mt_cases x)
  have KC := Lib.hid (kind_cases x)
  have FC := Lib.hid (rfile_cases x)
  clear hst hat htg
  unfold recC at *
  go_enter Tryd.func84, Tryd.ntmps84
  go_upto_region 1 with fail
  rcases KC.out with ⟨hk, hq⟩ | ⟨hk, hq1, hq2, hk3⟩
  · have HX := Lib.hid (FK.out hk)
    clear hk
    rcases hq with q1 | ⟨q1, q2⟩
    all_goals
      go_wp2
      go_ret
      exact ⟨ret_int (by rw [HX.out]; rfl), HB0.out⟩
  · generalize isPath x.at_ = ip at *
    go_wp2_with fail
    refine (HIS.out _).mono ?_
    rintro e w2 ⟨rfl, hb2⟩
    have HK2 := Lib.hid (HK0.out.below hb2 HK0.out.lt)
    have HB2 := Lib.hid (HB0.out.trans (hb2.mono HB0.out.size))
    have HST2 := Lib.hid (HST.out.below (HB0.out.trans (hb2.mono HB0.out.size)))
    clear hb2
    obtain ⟨⟨c0, c1, c2, c3, c4, c5, c6⟩, _⟩ := blk7' HK2.out
    cases ip with
    | false =>
      have HX := Lib.hid (FP.out hk rfl)
      go_wp2
      go_ret
      exact ⟨ret_int (by rw [HX.out]; rfl), HB2.out⟩
    | true =>
      rcases MT.out with ⟨hm, q1, q2, q3, q4⟩ | ⟨hm, hq⟩
      · rcases hk3 with h1 | h1 | h1
        · have HX := Lib.hid (FO.out hk rfl (F1.out hm h1))
          rw [h1] at c0
          clear hm hk h1 hq1 hq2
          go_wp2
          go_ret
          exact ⟨ret_int (by rw [HX.out]; rfl), HB2.out⟩
        · have HF1 := Lib.hid (F2.out hm h1)
          rw [h1] at c0
          have HK := Lib.hid hk
          clear hm h1 hq1 hq2 hk
          rcases FC.out with ⟨hf, hq⟩ | ⟨z1, z2, z3, z4, hf⟩
          · have HX := Lib.hid (FF.out HK.out rfl (HF1.out.trans hf))
            clear hf
            rcases hq with z1 | ⟨z1, z2⟩ | ⟨z1, z2, z3⟩ | ⟨z1, z2, z3, z4, z5⟩
            all_goals
              go_wp2
              go_ret
              exact ⟨ret_int (by rw [HX.out]; rfl), HB2.out⟩
          · have HMF := Lib.hid fun h => FF.out HK.out rfl (HF1.out.trans (hf.trans h))
            have HMO := Lib.hid fun h => FO.out HK.out rfl (HF1.out.trans (hf.trans h))
            clear hf
            rcases z4 with z4 | ⟨z4, z5⟩
            all_goals
              go_wp2
              go_loop [4, 79] (fun _ i => ∃ k : Nat, k ≤ x.chunks.length ∧ i = .int .i64 k ∧ ((x.chunks.take k).all fun c => decide (c.size = 32)) = true) (fun _ i => x.chunks.length - (intOf i).toNat)
              case atStart => exact ⟨0, Nat.zero_le _, rfl, rfl⟩
              case round =>
                obtain ⟨k, hk, rfl, hall⟩ := hrel
                have Hall := Lib.hid hall
                clear hall
                by_cases hlt : k < x.chunks.length
                · obtain ⟨bk, ok, rfl, hbk, hcc⟩ := HST2.out (by omega)
                  have hck := hcc k x.chunks[k] (List.getElem?_eq_getElem hlt)
                  have Hf := Lib.hid fun (h : decide (x.chunks[k].size = 32) = false) => HMF.out (all_no hlt h)
                  have Hs := Lib.hid fun (h : decide (x.chunks[k].size = 32) = true) => all_snoc (p := fun c => decide (c.size = 32)) hlt Hall.out h
                  clear hcc
                  generalize x.chunks[k] = ch at *
                  by_cases h32 : ch.size = 32
                  · have hne : ((ch.size : Int) != 32) = false := by rw [h32]; rfl
                    go_wp2
                    go_round
                    case rel => exact ⟨k + 1, by omega, by go_num, Hs.out (decide_eq_true h32)⟩
                    case measure => simp [intOf]; omega
                  · have hne : ((ch.size : Int) != 32) = true := by rw [bne_iff_ne]; omega
                    have HM := Lib.hid (Hf.out (decide_eq_false h32))
                    go_wp2
                    go_ret
                    exact ⟨ret_int (by rw [HM.out]; rfl), HB2.out⟩
                · obtain rfl : k = x.chunks.length := by omega
                  have HM := Lib.hid (HMO.out (by have := Hall.out; rwa [List.take_length] at this))
                  go_wp2
                  go_ret
                  exact ⟨ret_int (by rw [HM.out]; rfl), HB2.out⟩
        · have HF1 := Lib.hid (F3.out hm h1)
          rw [h1] at c0
          have HK := Lib.hid hk
          clear hm h1 hq1 hq2 hk
          generalize tgt x.target = tg at *
          go_wp2_with fail
          refine (HTG.out _).mono ?_
          rintro e w4 ⟨rfl, rfl⟩
          cases tg with
          | false =>
            have HX := Lib.hid (FF.out HK.out (by trivial) HF1.out)
            go_wp2
            go_ret
            exact ⟨ret_int (by rw [HX.out]; rfl), HB2.out⟩
          | true =>
            have HX := Lib.hid (FO.out HK.out (by trivial) HF1.out)
            go_wp2
            go_ret
            exact ⟨ret_int (by rw [HX.out]; rfl), HB2.out⟩
      · have HM := Lib.hid (FF.out hk rfl (FM.out hm))
        clear hm hk
        rcases hq with q1 | ⟨q1, q2⟩ | ⟨q1, q2, q3⟩ | ⟨q1, q2, q3, q4⟩
        all_goals
          go_wp2
          go_ret
          exact ⟨ret_int (by rw [HM.out]; rfl), HB2.out⟩
set_option maxRecDepth 100000 in
set_option maxHeartbeats 6400000 in
theorem rcheck_big (l : List Nr) (A : Option Addr) (c : Nat) (w : World) (hn : RecsA w A l) (hb : ∀ x ∈ l, NrB x) (hp : ∀ x ∈ l, x.at_.size ≤ 1100000) (hl : l.length ≤ 9223372036854775807) (hc : l.length ≤ c) :
    Calls Tryd.prog 47 #[.slice A l.length c] w fun e w' => e = .returned (.int .i64 (chkN l : Nat)) ∧ Below w.heap.size w w' := by
  have HN := Lib.hid fun W (hb : Below w.heap.size w W) => hn.below hb
  have HB := Lib.hid hb
  have HP := Lib.hid hp
  clear hn hb hp
  by_cases h2 : 200 < l.length
  · have HC := Lib.hid (show chkN l = 2 from if_pos h2)
    have hq : (200 : Int) < (l.length : Int) := by omega
    clear h2
    go_enter Tryd.func47, Tryd.ntmps47
    go_wp2
    go_ret
    exact ⟨ret_int (by rw [HC.out]; rfl), Below.refl _ _⟩
  · have HC := Lib.hid (show chkN l = goN [] l from if_neg h2)
    have hq : ¬ (200 : Int) < (l.length : Int) := by omega
    go_enter Tryd.func47, Tryd.ntmps47
    go_wp2
    go_loopw [15] (fun i wr => ∃ k : Nat, i = .int .i64 k ∧ k ≤ l.length ∧ goN (l.take k) (l.drop k) = goN [] l ∧ (∀ y ∈ l.take k, fitN y = 0) ∧ Below w.heap.size w wr) (fun i _ => l.length - (intOf i).toNat)
    case atStart => exact ⟨0, rfl, Nat.zero_le _, rfl, (fun y hy => by simp at hy), Below.refl _ _⟩
    case round =>
      obtain ⟨k, rfl, hk, hgo, hfit, hbel⟩ := hrel
      have HBL := Lib.hid hbel
      by_cases hkl : k < l.length
      · have hdr : l.drop k = l[k] :: l.drop (k + 1) := List.drop_eq_getElem_cons hkl
        rw [hdr] at hgo
        have HGO := Lib.hid (HC.out.trans hgo.symm)
        have HTK := Lib.hid (List.take_succ_eq_append_getElem hkl)
        obtain ⟨g, o, rfl, hg, hcc⟩ := HN.out wr hbel (by omega)
        obtain ⟨B, cb, hck, hst⟩ := hcc k l[k] (List.getElem?_eq_getElem hkl)
        have HCC := Lib.hid hcc
        have hbk := HB.out _ (List.getElem_mem hkl)
        have hpk := HP.out _ (List.getElem_mem hkl)
        have HFT := Lib.hid hfit
        have HPR := Lib.hid fun (m : Nat) (hm : k = m + 1) => (show l[m]? = some (l[m]'(by omega)) from List.getElem?_eq_getElem (by omega))
        have HPZ := Lib.hid fun (m : Nat) (hm : k = m + 1) => (Nat.le_trans (path_size (fit_parts (hfit (l[m]'(by omega)) (by subst hm; rw [List.take_succ_eq_append_getElem (by omega)]; exact List.mem_append_right _ (List.mem_singleton.2 rfl)))).2.1) (by decide) : (l[m]'(by omega)).at_.size ≤ 1000000)
        have HLA := Lib.hid fun (m : Nat) (hm : k = m + 1) => (by subst hm; exact take_last (by omega) : (l.take k).getLast? = some (l[m]'(by omega)))
        have HGN := Lib.hid (@goN_step (l.take k) (l.drop (k + 1)) l[k])
        have HGS := Lib.hid (@goN_stop (l.take k) (l.drop (k + 1)) l[k])
        clear hcc hdr hgo hfit hbel
        generalize l[k] = x at *
        have HFI := Lib.hid fun W h => rfit_big x B cb W h hpk hbk.tg hbk.ch
        have q0 : wr.cell? ⟨g, o + k * 7, none⟩ = some (.int .i64 x.kind) := hck 0 _ rfl
        have q1 : wr.cell? ⟨g, o + k * 7 + 1, none⟩ = some (.string x.at_) := hck 1 _ rfl
        have q2 : wr.cell? ⟨g, o + k * 7 + 2, none⟩ = some (.int .i64 x.mode) := hck 2 _ rfl
        have q3 : wr.cell? ⟨g, o + k * 7 + 3, none⟩ = some (.int .i64 x.time) := hck 3 _ rfl
        have q4 : wr.cell? ⟨g, o + k * 7 + 4, none⟩ = some (.int .i64 x.size) := hck 4 _ rfl
        have q5 : wr.cell? ⟨g, o + k * 7 + 5, none⟩ = some (.slice B x.chunks.length cb) := hck 5 _ rfl
        have q6 : wr.cell? ⟨g, o + k * 7 + 6, none⟩ = some (.string x.target) := hck 6 _ rfl
        have hk0 : (0 : Int) ≤ (k : Int) := by omega
        have hki : (k : Int) < (l.length : Int) := by omega
        have hk3 : ((k : Int)).toNat = k := by omega
        clear hck hbk hpk
        go_upto_region 6 with fail
        have hba := (Below.refl wr.heap.size wr).alloc (Nat.le_refl _) (.cells (recC x B cb) 72)
        have HKA := Lib.hid (Blk.new wr 72 (recC x B cb))
        have HSA := Lib.hid (hst.below hba)
        have HBA := Lib.hid (HBL.out.trans (hba.mono HBL.out.size))
        have HWA := Lib.hid hba
        clear hst hba q0 q1 q2 q3 q4 q5 q6
        unfold recC at HKA HSA HBA HWA HFI
        generalize wr.alloc (.cells #[.int .i64 x.kind, .string x.at_, .int .i64 x.mode, .int .i64 x.time, .int .i64 x.size, .slice B x.chunks.length cb, .string x.target] 72) = wa at *
        obtain ⟨⟨c0, c1, c2, c3, c4, c5, c6⟩, _⟩ := blk7' HKA.out
        go_wp2_with fail
        refine (HFI.out _ HSA.out).mono ?_
        rintro e w2 ⟨rfl, hb2⟩
        have HB2 := Lib.hid (HBA.out.trans (hb2.mono HBA.out.size))
        have HK2 := Lib.hid (HKA.out.below hb2 HKA.out.lt)
        have HW2 := Lib.hid (HWA.out.trans (hb2.mono HWA.out.size))
        clear hb2 c0 c1 c2 c3 c4 c5 c6
        by_cases hfx : fitN x = 0
        · have hne : (((fitN x : Nat) : Int) != 0) = false := by rw [hfx]; rfl
          have HPX := Lib.hid (show x.at_.size ≤ 1000000 from Nat.le_trans (path_size (fit_parts hfx).2.1) (by decide))
          have HPP := Lib.hid fun W => refparent_any x.at_ W HPX.out
          have HSF := Lib.hid fun (h : l.take k = []) => (by rw [h]; exact stepN_first hfx : stepN (l.take k) x = if thereN [] (parentP x.at_) = false then 7 else 0)
          have HSN := Lib.hid fun y (hy : (l.take k).getLast? = some y) => stepN_next hy hfx
          have k1 : w2.cell? ⟨wr.heap.size, 1, none⟩ = some (.string x.at_) := HK2.out.cell 1
          go_upto_region 9 with fail
          go_cut [38] (fun v wc => ∃ bb : Bool, v = .bool bb ∧ (bb = true → stepN (l.take k) x = 4) ∧ (bb = false → stepN (l.take k) x = if thereN (l.take k) (parentP x.at_) = false then 7 else 0) ∧ Below w2.heap.size w2 wc)
          case first =>
            by_cases hk00 : k = 0
            · have hq0 : ¬ (0 : Int) < (k : Int) := by omega
              have hq0d : decide (0 < k) = false := decide_eq_false (by omega)
              have HS0 := Lib.hid (show stepN (l.take k) x = if thereN (l.take k) (parentP x.at_) = false then 7 else 0 by
                have h0 : l.take k = [] := by rw [hk00]; rfl
                rw [HSF.out h0, h0])
              have HCM := Lib.hid fun W => refcompare_any noB noB W (by decide) (by decide)
              have HCL := Lib.hid fun W (hW : Below w2.heap.size w2 W) => (show W.cell? ⟨wr.heap.size, 1, none⟩ = some (.string x.at_) ∧ True from ⟨(HK2.out.below hW HK2.out.lt).cell 1, trivial⟩)
              clear hk00
              refine wp_region_below (by kernel_rfl) (by kernel_rfl) ?_
              repeat
                first
                  | go_big_quiet_skip
                  | (go_big_quiet_want
                     go_big_quiet_op
                     first
                       | go_big_quiet_on
                       | (refine ⟨_, fun _ _ => rfl, ?_⟩; go_big_quiet_on)
                       | (apply Exists.intro
                          refine ⟨fun W hW => ?_, ?_⟩
                          first
                            | (go_at_call 85; refine (HCM.out W).mono ?_; rintro e w8 ⟨rfl, hb8⟩; exact ⟨rfl, hW.trans (hb8.mono hW.size)⟩)
                            | (obtain ⟨g0, g1⟩ := HCL.out W hW; go_simp; done)
                            | (obtain ⟨g0, g1⟩ := HCL.out W hW; go_simp; rfl)
                          go_big_quiet_on))
              refine wpQuiet_nil ?_
              intro w3 hb3
              go_wp2
              go_meet
              exact ⟨false, rfl, (fun h => by cases h), fun _ => HS0.out, hb3⟩
            · obtain ⟨m, hm⟩ : ∃ m, k = m + 1 := ⟨k - 1, by omega⟩
              have hq0 : (0 : Int) < (k : Int) := by omega
              have hq0d : decide (0 < k) = true := decide_eq_true (by omega)
              have hq1 : (k : Int) - 1 = (m : Int) := by omega
              have hq2 : (0 : Int) ≤ (m : Int) := by omega
              have hq3 : (m : Int) < (l.length : Int) := by omega
              have hq4 : ((m : Int)).toNat = m := by omega
              have hpr := HPR.out m hm
              have hla := HLA.out m hm
              have hpz := HPZ.out m hm
              clear hk00 HPR HLA HPZ
              generalize l[m]'(by omega) = y at *
              obtain ⟨By, cy, hcy, _⟩ := HCC.out m y hpr
              have hy1 := hcy 1 (.string y.at_) rfl
              have HCM := Lib.hid fun W => refcompare_any y.at_ x.at_ W hpz HPX.out
              have HCL := Lib.hid fun W (hW : Below w2.heap.size w2 W) => (show W.cell? ⟨wr.heap.size, 1, none⟩ = some (.string x.at_) ∧ W.cell? ⟨g, o + m * 7 + 1, none⟩ = some (.string y.at_) from ⟨(HK2.out.below hW HK2.out.lt).cell 1, ((HW2.out.trans (hW.mono HW2.out.size)).cell (p := ⟨g, o + m * 7 + 1, none⟩) hg).trans hy1⟩)
              have HNX := Lib.hid (HSN.out y hla)
              have h3 := cmpL_three (partsP y.at_) (partsP x.at_)
              generalize cmpL (partsP y.at_) (partsP x.at_) = cv at *
              clear hcy hy1 hpr hla hpz hm
              rcases h3 with rfl | rfl | rfl
              all_goals
                refine wp_region_below (by kernel_rfl) (by kernel_rfl) ?_
                repeat
                  first
                    | go_big_quiet_skip
                    | (go_big_quiet_want
                       go_big_quiet_op
                       first
                         | go_big_quiet_on
                         | (refine ⟨_, fun _ _ => rfl, ?_⟩; go_big_quiet_on)
                         | (apply Exists.intro
                            refine ⟨fun W hW => ?_, ?_⟩
                            first
                              | (go_at_call 85; refine (HCM.out W).mono ?_; rintro e w8 ⟨rfl, hb8⟩; exact ⟨rfl, hW.trans (hb8.mono hW.size)⟩)
                              | (obtain ⟨g0, g1⟩ := HCL.out W hW; go_simp; done)
                              | (obtain ⟨g0, g1⟩ := HCL.out W hW; go_simp; rfl)
                            go_big_quiet_on))
                refine wpQuiet_nil ?_
                intro w3 hb3
                go_wp2
                go_meet
              · exact ⟨false, rfl, (fun h => by cases h), (fun _ => HNX.out.trans (if_neg (by simp))), hb3⟩
              · exact ⟨true, rfl, (fun _ => HNX.out.trans (if_pos (by decide))), (fun h => by cases h), hb3⟩
              · exact ⟨true, rfl, (fun _ => HNX.out.trans (if_pos (by decide))), (fun h => by cases h), hb3⟩
          case rest =>
            obtain ⟨bb, rfl, hb4, hb0, hb3⟩ := hcut
            have HB3 := Lib.hid (HB2.out.trans (hb3.mono HB2.out.size))
            have HK3 := Lib.hid (HK2.out.below hb3 HK2.out.lt)
            have HW3 := Lib.hid (HW2.out.trans (hb3.mono HW2.out.size))
            have HS4 := Lib.hid hb4
            have HS0 := Lib.hid hb0
            clear hb3 hb4 hb0 HB2 HK2 HW2 HSF HSN k1
            cases bb with
            | true =>
              have HX := Lib.hid (show chkN l = 4 by rw [HGO.out, HGS.out (by rw [HS4.out rfl]; decide), HS4.out rfl])
              go_wp2
              go_ret
              exact ⟨ret_int (by rw [HX.out]; rfl), HB3.out⟩
            | false =>
              have HS := Lib.hid (HS0.out rfl)
              have k1 : wc.cell? ⟨wr.heap.size, 1, none⟩ = some (.string x.at_) := HK3.out.cell 1
              have HCT := Lib.hid fun (j : Nat) (y : Nr) (hj : l[j]? = some y) => HCC.out j y hj
              have HSNC := Lib.hid (there_snoc l)
              have HTH0 := Lib.hid (show ((parentP x.at_).toList.isEmpty) = thereN (l.take 0) (parentP x.at_) by
                rw [toList_isEmpty]
                unfold thereN
                rw [List.take_zero, List.any_nil, Bool.or_false])
              clear HS0 HS4
              have hkc : (k : Int) ≤ (c : Int) := by omega
              have hkc2 : k ≤ c := by omega
              generalize parentP x.at_ = pp at *
              go_wp2_with fail
              refine (HPP.out _).mono ?_
              rintro e w5 ⟨rfl, rfl⟩
              obtain ⟨tb0, htb0⟩ : ∃ tb0, pp.toList.isEmpty = tb0 := ⟨_, rfl⟩
              have HT0 := Lib.hid (htb0.symm.trans HTH0.out)
              go_wp2
              obtain ⟨wo, rfl⟩ : ∃ wo : World, wo = wr := ⟨_, rfl⟩
              go_loopw [7, 48] (fun tv jv wi => ∃ j : Nat, tv = .bool (thereN (l.take j) pp) ∧ jv = .int .i64 (j : Nat) ∧ j ≤ k ∧ Below wc.heap.size wc wi) (fun _ jv _ => k - (intOf jv).toNat)
              case atStart => exact ⟨0, by rw [← HT0.out], rfl, Nat.zero_le _, Below.refl _ _⟩
              case round =>
                obtain ⟨j, rfl, rfl, hj, hbi⟩ := hrel
                have HBI := Lib.hid hbi
                clear hbi
                by_cases hjk : j < k
                · have hjl : j < l.length := by omega
                  obtain ⟨By, cy, hcy, _⟩ := HCT.out j l[j] (List.getElem?_eq_getElem hjl)
                  have HCY := Lib.hid fun (i : Nat) (u : Value) (hi : (recC l[j] By cy)[i]? = some u) => ((HW3.out.trans (HBI.out.mono HW3.out.size)).cell (p := ⟨g, o + j * 7 + i, none⟩) hg).trans (hcy i u hi)
                  have hsn := HSNC.out j hjl pp
                  have heq := txt_eqb l[j].at_ pp
                  have hke := int_eqb l[j].kind 1
                  clear hcy
                  generalize decide (l[j].at_ = pp) = da at *
                  generalize decide (l[j].kind = 1) = dk at *
                  generalize l[j] = y at *
                  have HSX := Lib.hid hsn
                  clear hsn
                  have q0 : wr.cell? ⟨g, o + j * 7, none⟩ = some (.int .i64 y.kind) := HCY.out 0 _ rfl
                  have q1 : wr.cell? ⟨g, o + j * 7 + 1, none⟩ = some (.string y.at_) := HCY.out 1 _ rfl
                  have q2 : wr.cell? ⟨g, o + j * 7 + 2, none⟩ = some (.int .i64 y.mode) := HCY.out 2 _ rfl
                  have q3 : wr.cell? ⟨g, o + j * 7 + 3, none⟩ = some (.int .i64 y.time) := HCY.out 3 _ rfl
                  have q4 : wr.cell? ⟨g, o + j * 7 + 4, none⟩ = some (.int .i64 y.size) := HCY.out 4 _ rfl
                  have q5 : wr.cell? ⟨g, o + j * 7 + 5, none⟩ = some (.slice By y.chunks.length cy) := HCY.out 5 _ rfl
                  have q6 : wr.cell? ⟨g, o + j * 7 + 6, none⟩ = some (.string y.target) := HCY.out 6 _ rfl
                  have hj0 : (0 : Int) ≤ (j : Int) := by omega
                  have hj1 : (j : Int) < (k : Int) := by omega
                  have hj3 : ((j : Int)).toNat = j := by omega
                  have HBJ := Lib.hid (HBI.out.alloc HBI.out.size (.cells #[.int .i64 y.kind, .string y.at_, .int .i64 y.mode, .int .i64 y.time, .int .i64 y.size, .slice By y.chunks.length cy, .string y.target] 72))
                  generalize thereN (l.take j) pp = tb at *
                  cases tb with
                  | true =>
                    go_wp2
                    go_roundw
                    case rel => exact ⟨j + 1, by rw [HSX.out]; rfl, by go_num, by omega, HBJ.out⟩
                    case measure => simp [intOf]; omega
                  | false =>
                    cases dk with
                    | false =>
                      go_wp2
                      go_roundw
                      case rel => exact ⟨j + 1, by rw [HSX.out]; rfl, by go_num, by omega, HBJ.out⟩
                      case measure => simp [intOf]; omega
                    | true =>
                      go_wp2
                      go_roundw
                      case rel => exact ⟨j + 1, by rw [HSX.out]; rfl, by go_num, by omega, HBJ.out⟩
                      case measure => simp [intOf]; omega
                · obtain rfl : j = k := by omega
                  have HB5 := Lib.hid (HB3.out.trans (HBI.out.mono HB3.out.size))
                  cases hth : thereN (l.take j) pp with
                  | false =>
                    have HX := Lib.hid (show chkN l = 7 by
                      have h7 : stepN (l.take j) x = 7 := HS.out.trans (if_pos hth)
                      rw [HGO.out, HGS.out (by rw [h7]; decide), h7])
                    clear hth
                    go_wp2
                    go_ret
                    exact ⟨ret_int (by rw [HX.out]; rfl), HB5.out⟩
                  | true =>
                    have HG1 := Lib.hid (HGN.out (HS.out.trans (if_neg (by rw [hth]; simp))))
                    have HF0 := Lib.hid (show ∀ y ∈ l.take (j + 1), fitN y = 0 from fun y hy => by
                      rw [HTK.out, List.mem_append, List.mem_singleton] at hy
                      rcases hy with hy | rfl
                      · exact HFT.out y hy
                      · exact hfx)
                    clear hth
                    go_wp2
                    go_roundw
                    case rel => exact ⟨j + 1, by go_num, by omega, by rw [HTK.out, ← HG1.out, HGO.out.symm]; exact HC.out, HF0.out, HB5.out⟩
                    case measure => simp [intOf]; omega
        · have hne : (((fitN x : Nat) : Int) != 0) = true := by rw [bne_iff_ne]; omega
          have HX := Lib.hid (show chkN l = fitN x by rw [HGO.out, HGS.out (by rw [stepN_fit hfx]; exact hfx), stepN_fit hfx])
          clear hfx
          go_wp2
          go_ret
          exact ⟨ret_int (by rw [HX.out]), HB2.out⟩
      · obtain rfl : k = l.length := by omega
        rw [List.drop_length] at hgo
        have HX := Lib.hid (show chkN l = 0 from HC.out.trans hgo.symm)
        clear hgo hfit
        go_wp2
        go_ret
        exact ⟨ret_int (by rw [HX.out]; rfl), HBL.out⟩
end Go.Proofs.YtaoejgnfoecpfaaDoor
namespace Go.Proofs.YtaoejgnfoecpfaaDoor
set_option linter.unusedVariables false
set_option linter.unusedSimpArgs false
set_option linter.unusedSectionVars false
open Go.RowKit

set_option maxRecDepth 100000 in
set_option maxHeartbeats 3200000 in
theorem same10_any (A B : Option Addr) (c d : Nat) (l : List ByteArray) (w : World) (ha : StrsA w w.heap.size A l) (hb : StrsA w w.heap.size B l) (hl : l.length ≤ 9223372036854775807) :
    Calls Tryd.prog 49 #[.slice A l.length c, .slice B l.length d] w fun e w' => e = .returned (.int .i64 0) ∧ Below w.heap.size w w' := by
  have HA := Lib.hid ha
  have HB := Lib.hid hb
  clear ha hb
  go_enter Tryd.func49, Tryd.ntmps49
  go_wp2
  go_loopw [13] (fun iv wr => ∃ i : Nat, iv = .int .i64 i ∧ i ≤ l.length ∧ Hid (Below w.heap.size w wr)) (fun iv _ => l.length - (intOf iv).toNat)
  case atStart => exact ⟨0, rfl, Nat.zero_le _, Lib.hid (Below.refl _ _)⟩
  case round =>
    obtain ⟨i, rfl, hid, HBR⟩ := hrel
    by_cases hil : i < l.length
    · have hii : (i : Int) < (l.length : Int) := by omega
      have hi0 : (0 : Int) ≤ (i : Int) := by omega
      obtain ⟨g, o, e1, hg, p0⟩ := HA.out (by omega)
      obtain ⟨g', o', e2, hg', q0⟩ := HB.out (by omega)
      subst e1 e2
      have r0 := (HBR.out.cell (p := ⟨g, o + i, none⟩) hg).trans (p0 i l[i] (List.getElem?_eq_getElem hil))
      have s0 := (HBR.out.cell (p := ⟨g', o' + i, none⟩) hg').trans (q0 i l[i] (List.getElem?_eq_getElem hil))
      clear p0 q0
      generalize l[i] = x at *
      go_upto_region 6 with fail
      go_quiet (fail)
      go_wp2
      go_roundw
      case rel => exact ⟨i + 1, by go_num, by omega, Lib.hid (HBR.out.trans ⟨rfl, rfl, rfl, Nat.le_refl _, fun _ _ => rfl⟩)⟩
      case measure => simp [intOf]; omega
    · obtain rfl : i = l.length := by omega
      have hii : ¬ (l.length : Int) < (l.length : Int) := by omega
      go_wp2
      go_ret
      exact ⟨rfl, HBR.out⟩
end Go.Proofs.YtaoejgnfoecpfaaDoor
namespace Go.Proofs.YtaoejgnfoecpfaaDoor
set_option linter.unusedVariables false
set_option linter.unusedSimpArgs false
set_option linter.unusedSectionVars false
open Go.RowKit

def addC (out : List ByteArray) (c : ByteArray) : List ByteArray := if (out.any fun x => decide (x = c)) = true then out else out ++ [c]
/-- what a node adds -/
def addN (out : List ByteArray) (x : Nr) : List ByteArray := if x.kind = 2 then x.chunks.foldl addC out else out
def chsN (l : List Nr) : List ByteArray := l.foldl addN []
theorem addC_len (out : List ByteArray) (c : ByteArray) : (addC out c).length ≤ out.length + 1 := by
  unfold addC
  split
  · omega
  · simp
theorem fold_take {α β : Type} (f : β → α → β) (b : β) {l : List α} {k : Nat} (h : k < l.length) : (l.take (k + 1)).foldl f b = f ((l.take k).foldl f b) l[k] := by
  rw [List.take_succ_eq_append_getElem h, List.foldl_append]
  rfl
theorem addC_fold_len : ∀ (l out : List ByteArray), (l.foldl addC out).length ≤ out.length + l.length
  | [], out => Nat.le_refl _
  | c :: r, out => by
    have h1 := addC_fold_len r (addC out c)
    have h2 := addC_len out c
    rw [List.foldl_cons, List.length_cons]
    omega
theorem addN_len (out : List ByteArray) (x : Nr) : (addN out x).length ≤ out.length + x.chunks.length := by
  unfold addN
  split
  · exact addC_fold_len _ _
  · omega
theorem setV_addC {out : List ByteArray} {c : ByteArray} (h : (out.any fun x => decide (x = c)) = false) : setV (addC out c) = kvPut (setV out) c (.bool true) := by
  unfold addC
  rw [if_neg (by rw [h]; simp), setV_snoc]
theorem strsV_add (a : List ByteArray) (c : ByteArray) : strsV (a ++ [c]) = strsV a ++ [.string c] := by simp [strsV]
theorem nopl_of {w : World} {v : Value} {x : Nr} (h : NodeIs w v x) (hk : x.kind ≠ 2) : NoPl v := by
  rcases h with ⟨_, rfl⟩ | ⟨h, _⟩ | ⟨_, rfl⟩ | ⟨_, rfl | ⟨g, rfl⟩⟩
  · exact .inl ⟨_, rfl⟩
  · exact absurd h hk
  · exact .inr (.inl ⟨_, rfl⟩)
  · exact .inr (.inr (.inr rfl))
  · exact .inr (.inr (.inl ⟨_, rfl⟩))
set_option maxRecDepth 100000 in
set_option maxHeartbeats 6400000 in
theorem nchunks_any (l : List Nr) (A : Option Addr) (c : Nat) (w : World) (hn : NodesA w A l) (hl : l.length ≤ 1000) (hc : ∀ x ∈ l, x.chunks.length ≤ 1000 ∧ ∀ s ∈ x.chunks, s.size ≤ 140737488355328) :
    Calls Tryd.prog 50 #[.slice A l.length c] w fun e w' => ∃ B d, e = .returned (.slice B (chsN l).length d) ∧ StrsA w' w'.heap.size B (chsN l) ∧ Below w.heap.size w w' := by
  have HN0 := Lib.hid hn
  have HCL := Lib.hid hc
  have hmm := @run_makeMap Tryd.prog
  have HM0 := Lib.hid (ownsKV_made w Tryd.prog 9)
  have HB0 := Lib.hid ((Below.refl w.heap.size w).alloc (Nat.le_refl _) (.map #[] 0))
  have hz0 : ∀ W, (zeroValue 4).run Tryd.prog W = .ok (.bool false) W := fun W => by kernel_rfl
  have HZ := Lib.hid hz0
  have HW1 := Lib.hid (show w.heap.size + 1 ≤ (w.alloc (.map #[] 0)).heap.size by simp)
  clear hz0 hn hc
  go_enter Tryd.func50, Tryd.ntmps50
  go_wp2
  go_loopw [3, 14] (fun ov iv wr => ∃ (k : Nat) (C : Option Addr) (d : Nat) (out : List ByteArray), ov = .slice C out.length d ∧ iv = .int .i64 (k : Nat) ∧ k ≤ l.length ∧ out.length ≤ k * 1000 ∧ Hid (out = (l.take k).foldl addN []) ∧ Hid (wr.ownsRow (w.heap.size + 1) 9 1 (.slice C out.length d) out.length (strsV out)) ∧ Hid (ownsKV wr Tryd.prog 9 w.heap.size (setV out)) ∧ Hid (Below w.heap.size w wr)) (fun _ iv _ => l.length - (intOf iv).toNat)
  case atStart => exact ⟨0, none, 0, [], rfl, rfl, Nat.zero_le _, Nat.zero_le _, Lib.hid rfl, Lib.hid (World.ownsRow_nil _ _ _ _), HM0, HB0⟩
  case round =>
    clear HM0 HB0 HW1
    obtain ⟨k, C, d, out, rfl, rfl, hk, hol, HAC, HO, HM, HB⟩ := hrel
    by_cases hkl : k < l.length
    · have hki : (k : Int) < (l.length : Int) := by omega
      have HST := Lib.hid (show (l.take (k + 1)).foldl addN [] = addN out l[k] by rw [HAC.out, fold_take addN [] hkl])
      obtain ⟨g, o, e1, hg, hcc⟩ := HN0.out (by omega)
      subst e1
      obtain ⟨hcl, hcs⟩ := HCL.out _ (List.getElem_mem hkl)
      have hck := hcc k l[k] (List.getElem?_eq_getElem hkl)
      clear hcc HAC
      generalize l[k] = x at *
      obtain ⟨v, hcv0, hnode⟩ := hck
      have hcv := (HB.out.cell (p := ⟨g, o + k, none⟩) hg).trans hcv0
      clear hcv0
      by_cases h2 : x.kind = 2
      · rcases hnode with ⟨h, _⟩ | ⟨_, X, cx, rfl, hst, _⟩ | ⟨h, _⟩ | ⟨h, _⟩
        · omega
        rotate_left
        · omega
        · unfold kindOk at h
          simp only [Bool.and_eq_false_iff, decide_eq_false_iff_not] at h
          omega
        have HAD := Lib.hid (show addN out x = x.chunks.foldl addC out from if_pos h2)
        have HAP := Lib.hid fun W => asPlain_pl x.at_ x.mode x.time x.size X x.chunks.length cx W
        have HXS := Lib.hid hst
        have HSZ := Lib.hid hcs
        have HO1 := HO
        clear hst hcs h2
        generalize x.chunks = ch at *
        unfold plaV at hcv HAP
        generalize x.at_ = xa at *
        generalize x.mode = xm at *
        generalize x.time = xt at *
        generalize x.size = xz at *
        go_wp2_with fail
        refine (HAP.out _).mono ?_
        rintro e w2 ⟨rfl, hb2⟩
        have hba := (Below.refl w2.heap.size w2).alloc (Nat.le_refl _) (.cells #[.string xa, .int .i64 xm, .int .i64 xt, .int .i64 xz, .slice X ch.length cx] 75)
        have hbb := hb2.trans (hba.mono hb2.size)
        have HKP := Lib.hid (Blk.new w2 75 #[.string xa, .int .i64 xm, .int .i64 xt, .int .i64 xz, .slice X ch.length cx])
        have HO3 := Lib.hid (own_atN HO.out fun i hi => hbb.block i (HO.out.lt i hi).2)
        have HM3 := Lib.hid (ownsKV_block HM.out (hbb.block _ (ownsKV_lt HM.out)))
        have HB3 := Lib.hid (HB.out.trans (hbb.mono HB.out.size))
        clear hba hbb hb2 HO HM HB HO1 HAP
        go_upto_region 7 with fail
        generalize w2.alloc (.cells #[.string xa, .int .i64 xm, .int .i64 xt, .int .i64 xz, .slice X ch.length cx] 75) = w3 at *
        have r4 : w3.cell? ⟨w2.heap.size, 4, none⟩ = some (.slice X ch.length cx) := HKP.out.cell 4
        go_wp2
        go_loopw [3, 28] (fun ov iv wr => ∃ (j : Nat) (C' : Option Addr) (d' : Nat) (o2 : List ByteArray), ov = .slice C' o2.length d' ∧ iv = .int .i64 (j : Nat) ∧ j ≤ ch.length ∧ o2.length ≤ out.length + j ∧ Hid (o2 = (ch.take j).foldl addC out) ∧ Hid (wr.ownsRow (w.heap.size + 1) 9 1 (.slice C' o2.length d') o2.length (strsV o2)) ∧ Hid (ownsKV wr Tryd.prog 9 w.heap.size (setV o2)) ∧ Hid (Below w.heap.size w wr)) (fun _ iv _ => ch.length - (intOf iv).toNat)
        case atStart => exact ⟨0, C, d, out, rfl, rfl, Nat.zero_le _, Nat.le_refl _, Lib.hid rfl, HO3, HM3, HB3⟩
        case round =>
          clear HO3 HM3 HB3
          obtain ⟨j, C', d', o2, rfl, rfl, hj, hol2, HA2, HO, HM, HB⟩ := hrel
          by_cases hjl : j < ch.length
          · have hji : (j : Int) < (ch.length : Int) := by omega
            have HS2 := Lib.hid (show (ch.take (j + 1)).foldl addC out = addC o2 ch[j] by rw [HA2.out, fold_take addC out hjl])
            obtain ⟨gx, ox, e1, hgx, hxx⟩ := HXS.out (by omega)
            subst e1
            have p0 := (HB.out.cell (p := ⟨gx, ox + j, none⟩) hgx).trans (hxx j ch[j] (List.getElem?_eq_getElem hjl))
            have hsz := HSZ.out _ (List.getElem_mem hjl)
            clear hxx HA2
            generalize ch[j] = cc at *
            have hsg := setV_get o2 cc
            have hsl := setV_len o2
            have hoj : o2.length ≤ 1001000 := by omega
            cases hany : (o2.any fun x => decide (x = cc)) with
            | true =>
              rw [hany] at hsg
              have HSG := Lib.hid hsg
              have HV := Lib.hid (HS2.out.trans (show addC o2 cc = o2 from if_pos hany))
              clear hsg hany HS2
              go_wp2_with (at_lookup; refine wpList_kvGet rfl _ _ 136 rfl Tryd.underlying9 Tryd.underlying136 (HZ.out _) rfl HM.out rfl (by unfold maxLen; omega) HSG.out ?_)
              go_roundw
              case rel => exact ⟨j + 1, C', d', o2, rfl, by go_num, by omega, by omega, Lib.hid HV.out.symm, HO, HM, HB⟩
              case measure => simp [intOf]; omega
            | false =>
              rw [hany] at hsg
              have HSG := Lib.hid hsg
              have HV := Lib.hid (HS2.out.trans (show addC o2 cc = o2 ++ [cc] by unfold addC; rw [hany]; rfl))
              have HSV := Lib.hid (show setV (o2 ++ [cc]) = kvPut (setV o2) cc (.bool true) from setV_snoc _ _)
              have hmb := ownsKV_lt HM.out
              clear hsg hany HS2
              go_wp2_with (first
                | (at_lookup; refine wpList_kvGet rfl _ _ 136 rfl Tryd.underlying9 Tryd.underlying136 (HZ.out _) rfl HM.out rfl (by unfold maxLen; omega) HSG.out ?_)
                | (at_builtin; refine wpList_app1 rfl _ _ 50 rfl (w.heap.size + 1) 9 Tryd.underlying50 infoStr rfl (by decide) _ _ _ rfl HO.out #[.string cc] rfl rfl (oneCell_string _) (by omega) (by omega) (by omega) ?_; intro g5 c5 w5 ho5 hg5 hb5 hl5
                   have HO5 := Lib.hid (show w5.ownsRow (w.heap.size + 1) 9 1 (.slice (some ⟨g5, 0, none⟩) (o2.length + 1) c5) (o2.length + 1) (strsV (o2 ++ [cc])) by rw [strsV_add]; exact ho5)
                   have HM5 := Lib.hid (ownsKV_block HM.out (hg5.block _ (ownsKV_lt HM.out) fun h => by have := (HO.out.lt _ h.symm).1; omega))
                   have HB5 := Lib.hid (HB.out.grown hg5 HB.out.size fun i hi => by have := (HO.out.lt i hi).1; omega)
                   clear ho5 hg5 hb5 hl5)
                | (at_mapUpdate; refine wpList_kvStore rfl _ _ _ 136 rfl Tryd.underlying9 Tryd.underlying136 rfl HM5.out (by omega) rfl (by unfold maxLen; omega) rfl ?_; intro w8 hown8 hturn8
                   have htt := Touch.of_turned hturn8
                   have HM8 := Lib.hid (show ownsKV w8 Tryd.prog 9 w.heap.size (setV (o2 ++ [cc])) by rw [HSV.out]; exact hown8)
                   have HO8 := Lib.hid (own_atN HO5.out fun i hi => htt.block i (HO5.out.lt i hi).2 (by have := (HO5.out.lt i hi).1; omega))
                   have HB8 := Lib.hid (HB5.out.trans (htt.below (B := w.heap.size) HB5.out.size (fun k hk => by omega)))
                   clear hown8 hturn8 htt))
              go_roundw
              case rel => exact ⟨j + 1, some ⟨g5, 0, none⟩, c5, o2 ++ [cc], by simp, by go_num, by omega, by simp; omega, Lib.hid HV.out.symm, Lib.hid (by simpa using HO8.out), HM8, HB8⟩
              case measure => simp [intOf]; omega
          · obtain rfl : j = ch.length := by omega
            have hji : ¬ (ch.length : Int) < (ch.length : Int) := by omega
            have hq := HA2.out
            rw [List.take_length] at hq
            have HV := Lib.hid (HST.out.trans (HAD.out.trans hq.symm))
            clear hq HA2 HST HAD
            go_wp2
            go_roundw
            case rel => exact ⟨k + 1, C', d', o2, rfl, by go_num, by omega, by omega, Lib.hid HV.out.symm, HO, HM, HB⟩
            case measure => simp [intOf]; omega
      · have HAD := Lib.hid (show addN out x = out from if_neg h2)
        have HAP := Lib.hid fun W => asPlain_no v (nopl_of hnode h2) W
        clear hnode h2
        go_wp2_with fail
        refine (HAP.out _).mono ?_
        rintro e w2 ⟨rfl, hb2⟩
        have hba := (Below.refl w2.heap.size w2).alloc (Nat.le_refl _) (.cells #[.string ⟨#[]⟩, .int .i64 0, .int .i64 0, .int .i64 0, .slice none 0 0] 75)
        have hbb := hb2.trans (hba.mono hb2.size)
        have HO3 := Lib.hid (own_atN HO.out fun i hi => hbb.block i (HO.out.lt i hi).2)
        have HM3 := Lib.hid (ownsKV_block HM.out (hbb.block _ (ownsKV_lt HM.out)))
        have HB3 := Lib.hid (HB.out.trans (hbb.mono HB.out.size))
        have HV := Lib.hid (HST.out.trans HAD.out)
        clear hba hbb hb2 HO HM HB HST HAD HAP
        go_wp2
        go_roundw
        case rel => exact ⟨k + 1, C, d, out, rfl, by go_num, by omega, by omega, Lib.hid HV.out.symm, HO3, HM3, HB3⟩
        case measure => simp [intOf]; omega
    · obtain rfl : k = l.length := by omega
      have hki : ¬ (l.length : Int) < (l.length : Int) := by omega
      have hq := HAC.out
      rw [List.take_length] at hq
      have HV := Lib.hid (show out = chsN l from hq)
      have HS := Lib.hid (own_strs HO.out).1
      clear hq
      go_wp2
      go_ret
      rw [← HV.out]
      exact ⟨C, ⟨d, rfl⟩, HS.out, HB.out⟩
end Go.Proofs.YtaoejgnfoecpfaaDoor
namespace Go.Proofs.YtaoejgnfoecpfaaDoor
set_option linter.unusedVariables false
set_option linter.unusedSimpArgs false
set_option linter.unusedSectionVars false
open Go.RowKit

theorem own_otherC {w : World} {B n k g : Nat} {t t' : TypeId} {v : Value} {xs : List Value} {cs : Array Value} (h : w.ownsRow B t k v n xs) (hb : Blk w g t' cs) (ht : t ≠ t') : some g ≠ v.ownBlock := fun e => by
  rcases h.2 with ⟨hv, _⟩ | ⟨g', cap, cur, hv, _, hg, _⟩
  · subst hv
    cases e
  · subst hv
    simp only [Value.ownBlock, Option.some.injEq] at e
    subst e
    unfold Blk at hb
    rw [hb] at hg
    injection hg with hg
    injection hg with _ h2 _
    exact ht h2.symm
set_option maxRecDepth 100000 in
set_option maxHeartbeats 6400000 in
theorem rchunks_any (l : List Nr) (A : Option Addr) (c : Nat) (w : World) (hn : RecsA w A l) (hl : l.length ≤ 1000) (hc : ∀ x ∈ l, x.chunks.length ≤ 1000) :
    Calls Tryd.prog 51 #[.slice A l.length c] w fun e w' => ∃ B d, e = .returned (.slice B (chsN l).length d) ∧ StrsA w' w'.heap.size B (chsN l) ∧ Below w.heap.size w w' := by
  have HN0 := Lib.hid hn
  have HCL := Lib.hid hc
  have HB0 := Lib.hid ((Below.refl w.heap.size w).alloc (Nat.le_refl _) (.cells #[] 9))
  have HO0 := Lib.hid (own_empty (w := w) (B := w.heap.size) (t := 9) (Nat.le_refl _))
  clear hn hc
  go_enter Tryd.func51, Tryd.ntmps51
  go_wp2
  go_loopw [3, 14] (fun ov iv wr => ∃ (k : Nat) (C : Option Addr) (d : Nat) (out : List ByteArray), ov = .slice C out.length d ∧ iv = .int .i64 (k : Nat) ∧ k ≤ l.length ∧ out.length ≤ k * 1000 ∧ Hid (out = (l.take k).foldl addN []) ∧ Hid (wr.ownsRow w.heap.size 9 1 (.slice C out.length d) out.length (strsV out)) ∧ Hid (Below w.heap.size w wr)) (fun _ iv _ => l.length - (intOf iv).toNat)
  case atStart => exact ⟨0, _, 0, [], rfl, rfl, Nat.zero_le _, Nat.zero_le _, Lib.hid rfl, HO0, HB0⟩
  case round =>
    clear HO0 HB0
    obtain ⟨k, C, d, out, rfl, rfl, hk, hol, HAC, HO, HB⟩ := hrel
    by_cases hkl : k < l.length
    · have hki : (k : Int) < (l.length : Int) := by omega
      have HST := Lib.hid (show (l.take (k + 1)).foldl addN [] = addN out l[k] by rw [HAC.out, fold_take addN [] hkl])
      obtain ⟨g, o, e1, hg, hcc⟩ := HN0.out (by omega)
      subst e1
      have hcl := HCL.out _ (List.getElem_mem hkl)
      obtain ⟨X, cx, hck, hxs⟩ := hcc k l[k] (List.getElem?_eq_getElem hkl)
      clear hcc HAC
      generalize l[k] = x at *
      have q0 := (HB.out.cell (p := ⟨g, o + k * 7, none⟩) hg).trans (hck 0 (.int .i64 x.kind) rfl)
      have q1 := (HB.out.cell (p := ⟨g, o + k * 7 + 1, none⟩) hg).trans (hck 1 (.string x.at_) rfl)
      have q2 := (HB.out.cell (p := ⟨g, o + k * 7 + 2, none⟩) hg).trans (hck 2 (.int .i64 x.mode) rfl)
      have q3 := (HB.out.cell (p := ⟨g, o + k * 7 + 3, none⟩) hg).trans (hck 3 (.int .i64 x.time) rfl)
      have q4 := (HB.out.cell (p := ⟨g, o + k * 7 + 4, none⟩) hg).trans (hck 4 (.int .i64 x.size) rfl)
      have q5 := (HB.out.cell (p := ⟨g, o + k * 7 + 5, none⟩) hg).trans (hck 5 (.slice X x.chunks.length cx) rfl)
      have q6 := (HB.out.cell (p := ⟨g, o + k * 7 + 6, none⟩) hg).trans (hck 6 (.string x.target) rfl)
      have HXS := Lib.hid hxs
      have HAD := Lib.hid (show addN out x = if x.kind = 2 then x.chunks.foldl addC out else out from rfl)
      clear hck hxs
      generalize addN out x = nx at *
      obtain ⟨xk, xa, xm, xt, xz, ch, xg⟩ := x
      simp only at q0 q1 q2 q3 q4 q5 q6 HXS HAD hcl
      have hba := (Below.refl wr.heap.size wr).alloc (Nat.le_refl _) (.cells #[.int .i64 xk, .string xa, .int .i64 xm, .int .i64 xt, .int .i64 xz, .slice X ch.length cx, .string xg] 72)
      have HKX := Lib.hid (Blk.new wr 72 #[.int .i64 xk, .string xa, .int .i64 xm, .int .i64 xt, .int .i64 xz, .slice X ch.length cx, .string xg])
      have HO3 := Lib.hid (own_atN HO.out fun i hi => hba.block i (HO.out.lt i hi).2)
      have HB3 := Lib.hid (HB.out.trans (hba.mono HB.out.size))
      clear hba HO HB
      obtain ⟨wo, rfl⟩ : ∃ wo : World, wo = wr := ⟨_, rfl⟩
      go_upto_region 5 with fail
      generalize wo.alloc (.cells #[.int .i64 xk, .string xa, .int .i64 xm, .int .i64 xt, .int .i64 xz, .slice X ch.length cx, .string xg] 72) = w3 at *
      have r5 : w3.cell? ⟨wo.heap.size, 5, none⟩ = some (.slice X ch.length cx) := HKX.out.cell 5
      go_wp2
      go_loopw [3, 21] (fun ov iv wr => ∃ (j : Nat) (C' : Option Addr) (d' : Nat) (o2 : List ByteArray), ov = .slice C' o2.length d' ∧ iv = .int .i64 (j : Nat) ∧ j ≤ ch.length ∧ o2.length ≤ out.length + j ∧ Hid (o2 = if xk = 2 then (ch.take j).foldl addC out else out) ∧ Hid (wr.ownsRow w.heap.size 9 1 (.slice C' o2.length d') o2.length (strsV o2)) ∧ Hid (Blk wr wo.heap.size 72 #[.int .i64 xk, .string xa, .int .i64 xm, .int .i64 xt, .int .i64 xz, .slice X ch.length cx, .string xg]) ∧ Hid (Below w.heap.size w wr)) (fun _ iv _ => ch.length - (intOf iv).toNat)
      case atStart => exact ⟨0, C, d, out, rfl, rfl, Nat.zero_le _, Nat.le_refl _, Lib.hid (by simp), HO3, HKX, HB3⟩
      case round =>
        clear HO3 HKX HB3
        obtain ⟨j, C', d', o2, rfl, rfl, hj, hol2, HA2, HO, HK, HB⟩ := hrel
        by_cases hjl : j < ch.length
        · have hji : (j : Int) < (ch.length : Int) := by omega
          have HS2 := Lib.hid (show (if xk = 2 then (ch.take (j + 1)).foldl addC out else out) = if xk = 2 then addC o2 ch[j] else o2 by
            by_cases h2 : xk = 2
            · rw [if_pos h2, if_pos h2, HA2.out, if_pos h2, fold_take addC out hjl]
            · rw [if_neg h2, if_neg h2, HA2.out, if_neg h2])
          obtain ⟨gx, ox, e1, hgx, hxx⟩ := HXS.out (by omega)
          subst e1
          have p0 := (HB.out.cell (p := ⟨gx, ox + j, none⟩) hgx).trans (hxx j ch[j] (List.getElem?_eq_getElem hjl))
          have r0 : wr.cell? ⟨wo.heap.size, 0, none⟩ = some (.int .i64 xk) := HK.out.cell 0
          have HSA := Lib.hid (own_strs HO.out).1
          clear hxx HA2
          generalize ch[j] = cc at *
          have hoj : o2.length ≤ 1001000 := by omega
          obtain ⟨wi, rfl⟩ : ∃ wi : World, wi = wr := ⟨_, rfl⟩
          obtain ⟨kb, hkb⟩ : ∃ kb : Bool, (xk != 2) = kb := ⟨_, rfl⟩
          have HKB := Lib.hid (show (kb = true → xk ≠ 2) ∧ (kb = false → xk = 2) from ⟨fun h => by subst h; simpa using hkb, fun h => by subst h; simpa using hkb⟩)
          go_wp2
          go_loop [8, 30] (fun sv mv => ∃ m : Nat, sv = .bool (kb || (o2.take m).any fun x => decide (x = cc)) ∧ mv = .int .i64 (m : Nat) ∧ m ≤ o2.length) (fun _ mv => o2.length - (intOf mv).toNat)
          case atStart => exact ⟨0, by simp, rfl, Nat.zero_le _⟩
          case round =>
            obtain ⟨m, rfl, rfl, hm⟩ := hrel
            by_cases hml : m < o2.length
            · have hmi : (m : Int) < (o2.length : Int) := by omega
              obtain ⟨gy, oy, e1, hgy, hyy⟩ := HSA.out (by omega)
              subst e1
              have s0 := hyy m o2[m] (List.getElem?_eq_getElem hml)
              have HAN := Lib.hid (show ((o2.take (m + 1)).any fun x => decide (x = cc)) = (((o2.take m).any fun x => decide (x = cc)) || (o2[m].toList == cc.toList)) by
                rw [List.take_succ_eq_append_getElem hml, List.any_append, txt_eqb]; simp)
              clear hyy
              generalize o2[m] = y at *
              generalize ((o2.take m).any fun x => decide (x = cc)) = fb at *
              cases kb with
              | true =>
                have hq : (true || fb) = true := rfl
                rw [hq]
                go_wp2
                go_round
                case rel => exact ⟨m + 1, by rfl, by go_num, by omega⟩
                case measure => simp [intOf]; omega
              | false =>
                have hq : (false || fb) = fb := by cases fb <;> rfl
                rw [hq]
                cases fb with
                | true =>
                  have HR := Lib.hid (HAN.out.trans (Bool.true_or _))
                  go_wp2
                  go_round
                  case rel => exact ⟨m + 1, by rw [HR.out]; rfl, by go_num, by omega⟩
                  case measure => simp [intOf]; omega
                | false =>
                  have HR := Lib.hid (HAN.out.trans (Bool.false_or _))
                  cases hy : (y.toList == cc.toList)
                  all_goals
                    rw [hy] at HR
                    go_wp2
                    go_round
                    case rel => exact ⟨m + 1, by rw [HR.out]; rfl, by go_num, by omega⟩
                    case measure => simp [intOf]; omega
            · obtain rfl : m = o2.length := by omega
              have hmi : ¬ (o2.length : Int) < (o2.length : Int) := by omega
              rw [List.take_length]
              cases hsn : (kb || o2.any fun x => decide (x = cc)) with
              | true =>
                have HV := Lib.hid (HS2.out.trans (show (if xk = 2 then addC o2 cc else o2) = o2 by
                  by_cases h2 : xk = 2
                  · rw [if_pos h2]
                    have : kb = false := by
                      cases kb with
                      | true => exact absurd h2 (HKB.out.1 rfl)
                      | false => rfl
                    subst this
                    exact if_pos (by simpa using hsn)
                  · rw [if_neg h2]))
                go_wp2
                go_roundw
                case rel => exact ⟨j + 1, C', d', o2, rfl, by go_num, by omega, by omega, Lib.hid HV.out.symm, HO, HK, HB⟩
                case measure => simp [intOf]; omega
              | false =>
                have hkf : kb = false := by cases kb <;> simp_all
                subst hkf
                have HV := Lib.hid (HS2.out.trans (show (if xk = 2 then addC o2 cc else o2) = o2 ++ [cc] by
                  rw [if_pos (HKB.out.2 rfl)]
                  unfold addC
                  have ha : (o2.any fun x => decide (x = cc)) = false := hsn
                  rw [if_neg (by rw [ha]; simp)]))
                clear hsn
                go_wp2_with (at_builtin; refine wpList_app1 rfl _ _ 50 rfl w.heap.size 9 Tryd.underlying50 infoStr rfl (by decide) _ _ _ rfl HO.out #[.string cc] rfl rfl (oneCell_string _) (by omega) (by omega) HB.out.size ?_; intro g5 c5 w5 ho5 hg5 hb5 hl5
                             have HO5 := Lib.hid (show w5.ownsRow w.heap.size 9 1 (.slice (some ⟨g5, 0, none⟩) (o2.length + 1) c5) (o2.length + 1) (strsV (o2 ++ [cc])) by rw [strsV_add]; exact ho5)
                             have HK5 := Lib.hid (Blk.grown HK.out hg5 (own_otherC HO.out HK.out (by decide)))
                             have HB5 := Lib.hid (HB.out.grown hg5 HB.out.size fun i hi => (HO.out.lt i hi).1)
                             clear ho5 hg5 hb5 hl5)
                go_wp2
                go_roundw
                case rel => exact ⟨j + 1, some ⟨g5, 0, none⟩, c5, o2 ++ [cc], by simp, by go_num, by omega, by simp; omega, Lib.hid HV.out.symm, Lib.hid (by simpa using HO5.out), HK5, HB5⟩
                case measure => simp [intOf]; omega
        · obtain rfl : j = ch.length := by omega
          have hji : ¬ (ch.length : Int) < (ch.length : Int) := by omega
          have hq := HA2.out
          rw [List.take_length] at hq
          have HV := Lib.hid (HST.out.trans (HAD.out.trans hq.symm))
          clear hq HA2 HST HAD
          go_wp2
          go_roundw
          case rel => exact ⟨k + 1, C', d', o2, rfl, by go_num, by omega, by omega, Lib.hid HV.out.symm, HO, HB⟩
          case measure => simp [intOf]; omega
    · obtain rfl : k = l.length := by omega
      have hki : ¬ (l.length : Int) < (l.length : Int) := by omega
      have hq := HAC.out
      rw [List.take_length] at hq
      have HV := Lib.hid (show out = chsN l from hq)
      have HS := Lib.hid (own_strs HO.out).1
      clear hq
      go_wp2
      go_ret
      rw [← HV.out]
      exact ⟨C, ⟨d, rfl⟩, HS.out, HB.out⟩
end Go.Proofs.YtaoejgnfoecpfaaDoor
namespace Go.Proofs.YtaoejgnfoecpfaaDoor
set_option linter.unusedVariables false
set_option linter.unusedSimpArgs false
set_option linter.unusedSectionVars false
open Go.RowKit Go.Maps Go.ChangeShapes Go.WideShapes Go.ChangeAt Go.Deep

/-- the value of a row of records that came in -/
def RecsP (w : World) (v : Value) (l : List Nr) : Prop := ∃ A c, v = .slice A l.length c ∧ RecsI w A l ∧ l.length ≤ 140737488355328 ∧ ∀ x ∈ l, NrB x
section
variable {H : Type} {enc : TypeId × Value → H} {W : World} {base base' : Nat} {v : Value} {d : DataW H} {p : List MemPlace}
theorem arr7 {cs : Array Value} {a b c d e f g : Value} (hs : cs.size = 7) (h0 : cs[0]? = some a) (h1 : cs[1]? = some b) (h2 : cs[2]? = some c) (h3 : cs[3]? = some d) (h4 : cs[4]? = some e) (h5 : cs[5]? = some f) (h6 : cs[6]? = some g) : cs = #[a, b, c, d, e, f, g] := by
  obtain ⟨l⟩ := cs
  match l, hs with
  | [x, y, z, u, v, w, r], _ => simp_all
set_option maxRecDepth 100000 in
theorem recs_in (hv : Value.okWide Tryd.prog W .any base 22 v) (h : DataW.Trod enc Tryd.prog W base' (fun _ => true) true 22 v d p) (hwt : ∀ n ∈ d.weights Tryd.prog 22, n ≤ reachBytes) : ∃ l, RecsP W v l := by
  obtain ⟨fuel, hf⟩ := h
  rw [okWide_cells Tryd.underlying22 hv] at hf
  have : ∃ l, RowS W 7 (fun (cs : Array Value) (x : Nr) => ∃ B c, cs = recC x B c ∧ StrsA W W.heap.size B x.chunks ∧ x.chunks.length ≤ c ∧ (B = none → c = 0) ∧ NrB x) v l ∧ l.length * Tryd.prog.bytesOf 72 ≤ reachBytes := by
    refine rows_sized (fs := _) (fun (cs : Array Value) (x : Nr) => ∃ B c, cs = recC x B c ∧ StrsA W W.heap.size B x.chunks ∧ x.chunks.length ≤ c ∧ (B = none → c = 0) ∧ NrB x) Tryd.underlying22 Tryd.underlying72 (by decide) (by kernel_rfl) (by kernel_rfl) hf hwt fun cs hs hf => ?_
    obtain ⟨u0, n0, y0, h0, t0, g0⟩ := hf 0 _ rfl
    obtain ⟨u1, n1, y1, h1, t1, g1⟩ := hf 1 _ rfl
    obtain ⟨u2, n2, y2, h2, t2, g2⟩ := hf 2 _ rfl
    obtain ⟨u3, n3, y3, h3, t3, g3⟩ := hf 3 _ rfl
    obtain ⟨u4, n4, y4, h4, t4, g4⟩ := hf 4 _ rfl
    obtain ⟨u5, n5, y5, h5, t5, g5⟩ := hf 5 _ rfl
    obtain ⟨u6, n6, y6, h6, t6, g6⟩ := hf 6 _ rfl
    obtain ⟨kk, rfl, _⟩ := int_trod Tryd.underlying3 t0
    obtain ⟨at_, rfl, z1⟩ := string_sized Tryd.underlying9 t1 g1
    obtain ⟨md, rfl, z2⟩ := int_trod Tryd.underlying3 t2
    obtain ⟨tm, rfl, z3⟩ := int_trod Tryd.underlying3 t3
    obtain ⟨sz, rfl, z4⟩ := int_trod Tryd.underlying3 t4
    obtain ⟨ch, B, c, rfl, k1, k2, k3, k4, k5⟩ := strs_sized t5 g5
    obtain ⟨tg, rfl, z6⟩ := string_sized Tryd.underlying9 t6 g6
    exact ⟨⟨kk, at_, md, tm, sz, ch, tg⟩, B, c, arr7 hs h0 h1 h2 h3 h4 h5 h6, k1, k2, k3, z1, z6, by show ch.length ≤ _; omega, k5, z4, z2, z3⟩
  obtain ⟨l, ⟨A, c, rfl, hl, hp⟩, hz⟩ := this
  rw [show Tryd.prog.bytesOf 72 = 88 by kernel_rfl] at hz
  have hz := reach47 hz
  refine ⟨l, A, c, rfl, fun hpos => ?_, by omega, fun x hx => ?_⟩
  · obtain ⟨b, o, cs, rfl, hb, _, _⟩ := hp 0 hpos
    refine ⟨b, o, rfl, hb, fun i x hi => ?_⟩
    have hil : i < l.length := (List.getElem?_eq_some_iff.1 hi).1
    obtain ⟨b2, o2, cs2, e, _, ⟨B, c', hcs, q1, q2, q3, _⟩, hcell2⟩ := hp i hil
    injection e with e
    injection e with e1 e2
    subst e1 e2
    obtain rfl : l[i] = x := (List.getElem?_eq_some_iff.1 hi).2
    exact ⟨B, c', fun j u hj => hcell2 j u (by rw [hcs]; exact hj), q1, q2, q3⟩
  · obtain ⟨i, hi, rfl⟩ := List.getElem_of_mem hx
    obtain ⟨_, _, _, _, _, ⟨_, _, _, _, _, _, hb⟩, _⟩ := hp i hi
    exact hb
end
end Go.Proofs.YtaoejgnfoecpfaaDoor
namespace Go.Proofs.YtaoejgnfoecpfaaDoor
set_option linter.unusedVariables false
set_option linter.unusedSimpArgs false
set_option linter.unusedSectionVars false
open Go.RowKit Go.Maps Go.ChangeShapes Go.WideShapes Go.ChangeAt Go.Deep

theorem bulk_mem {H : Type} {d : DataW H} {l : List (DataW H)} (h : d ∈ l) : Rows.uptoBulk d ≤ Rows.uptoBulkAll l := by
  induction l with
  | nil => cases h
  | cons x r ih =>
    simp only [Rows.uptoBulkAll]
    cases List.mem_cons.1 h with
    | inl e => subst e; omega
    | inr e => have := ih e; omega
section
variable {H : Type} {enc : TypeId × Value → H} {W : World} {base base' : Nat} {v : Value} {d : DataW H} {p : List MemPlace}
set_option maxRecDepth 100000 in
/-- a row of structs whose fields are of one cell each, out of one cell -/
theorem rows_bulk {α : Type} {t e : TypeId} {fs : Array Field} (dec : Array Value → α → Prop) (ht : Tryd.prog.underlying t = some (.slice e)) (he : Tryd.prog.underlying e = some (.struct fs))
    (hpos : 0 < fs.size) (hone : oneCellFields Tryd.prog fs = true) (hC : Tryd.prog.cellsOf e = fs.size) {fu : Nat} {y : DataW H × List MemPlace} (h : DataW.trod enc Tryd.prog W base' (fun _ => true) true fu t [v] = some y) (hwt : ∀ n ∈ y.1.weights Tryd.prog t, n ≤ reachBytes) {N : Nat} (hbk : Rows.uptoBulk y.1 ≤ N)
    (hdec : ∀ cs : Array Value, cs.size = fs.size → (∀ (j : Nat) (f : Field), fs[j]? = some f → ∃ u n y, cs[j]? = some u ∧ DataW.trod enc Tryd.prog W base' (fun _ => true) true n f.type [u] = some y ∧ (∀ n ∈ y.1.weights Tryd.prog f.type, n ≤ reachBytes) ∧ Rows.uptoBulk y.1 ≤ N) → ∃ x, dec cs x) :
    ∃ l, RowS W fs.size dec v l ∧ l.length * Tryd.prog.bytesOf e ≤ reachBytes := by
  obtain ⟨d, p⟩ := y
  rcases open_slice ht h with ⟨hcs, _⟩ | ⟨a, len0, cap0, m, n, D, Pl, hcs, hb, hl, hm, hmm, hx0, hi⟩
  · simp at hcs
    subst hcs
    exact ⟨[], ⟨none, 0, rfl, by simp, fun i h => absurd h (by simp)⟩, by simp⟩
  · simp at hcs
    subst hcs
    simp only [if_true] at hmm
    simp only [Prod.mk.injEq] at hx0
    have hx : ∀ i, i < len0 → ∃ x, ∃ b o cs, a = ⟨b, o, none⟩ ∧ b < W.heap.size ∧ dec cs x ∧ ∀ (j : Nat) u, cs[j]? = some u → W.cell? ⟨b, o + i * fs.size + j, none⟩ = some u := by
      intro i hil
      obtain ⟨cs', hc, ht'⟩ := hi i (by omega)
      rw [hC] at hc
      obtain ⟨ys, n', _, hyD, hlen, hyl, hfy⟩ := DataW.trod_struct he ht'
      simp only [Prod.mk.injEq] at hyD
      obtain ⟨_, hcl, hat⟩ := World.cells?_some hc
      have hsz : cs'.toArray.size = fs.size := by simpa using hcl
      have hfield : ∀ (j : Nat) (f : Field), fs[j]? = some f → ∃ u n y, cs'.toArray[j]? = some u ∧ DataW.trod enc Tryd.prog W base' (fun _ => true) true n f.type [u] = some y ∧ (∀ n ∈ y.1.weights Tryd.prog f.type, n ≤ reachBytes) ∧ Rows.uptoBulk y.1 ≤ N := by
        intro j f hj
        obtain ⟨ho, hk⟩ := hone_of hone j f hj
        have hjl : j < fs.size := (Array.getElem?_eq_some_iff.1 hj).1
        have hvj : cs'[j]? = some (cs'[j]'(by omega)) := List.getElem?_eq_getElem (by omega)
        have h1 := hfy j f hj
        rw [ho, hk] at h1
        have hone' : (cs'.drop j).take 1 = [cs'[j]'(by omega)] := by
          rw [List.drop_eq_getElem_cons (by omega)]
          rfl
        rw [hone'] at h1
        have hys : ys[j]? = some (ys[j]'(by omega)) := List.getElem?_eq_getElem (by omega)
        have hbj : Rows.uptoBulk (ys[j]'(by omega)).1 ≤ N := by
          have h2 : Rows.uptoBulk (D i) ≤ Rows.uptoBulkAll ((List.range len0).map D) := bulk_mem (List.mem_map.2 ⟨i, List.mem_range.2 hil, rfl⟩)
          rw [hx0.1] at hbk
          rw [hyD.1] at h2
          simp only [Rows.uptoBulk] at hbk h2
          refine Nat.le_trans (bulk_mem ?_) (Nat.le_trans (Nat.le_trans (Nat.le_add_right _ 1) h2) (Nat.le_trans (by omega) hbk))
          exact List.mem_map.2 ⟨_, List.getElem_mem (by omega), rfl⟩
        refine ⟨_, n', _, by simp, h1.trans hys, fun q hq => hwt q ?_, hbj⟩
        rw [hx0.1]
        have h2 : q ∈ (D i).weights Tryd.prog e := by
          rw [hyD.1]
          simp only [DataW.weights, he]
          exact DataW.weights_mem_each (j := j) (t := f.type) (by simp [hj]) (by simp [hys]) q hq
        have h3 : q ∈ DataW.weightsAll Tryd.prog e ((List.range len0).map D) := weightsAll_mem (List.mem_map.2 ⟨i, List.mem_range.2 hil, rfl⟩) h2
        simp only [DataW.weights, ht]
        exact List.mem_cons_of_mem _ (List.mem_append.2 (Or.inl h3))
      obtain ⟨x, hd⟩ := hdec cs'.toArray hsz hfield
      have hcell : ∀ (j : Nat) u, cs'.toArray[j]? = some u → W.cell? (a.add (i * fs.size + j)) = some u := by
        intro j u hj
        have hjl : j < fs.size := by
          have := (Array.getElem?_eq_some_iff.1 hj).1
          omega
        have := hat j hjl
        rw [← Go.Deep.add_add, this]
        simpa using hj
      have h00 := hcell 0 (cs'[0]'(by omega)) (by simp)
      have hsp : a.spot = none := by
        obtain ⟨c0, hc0, _⟩ := hi 0 (by omega)
        rw [hC] at hc0
        obtain ⟨_, hcl0, hat0⟩ := World.cells?_some hc0
        have h1 := hat0 0 (by omega)
        have h2 : c0[0]? = some (c0[0]'(by omega)) := List.getElem?_eq_getElem (by omega)
        rw [h2] at h1
        have h3 := World.cell?_spot h1
        unfold Addr.add at h3
        simpa using h3
      have hae : a = ⟨a.block, a.off, none⟩ := by
        obtain ⟨g, o, s⟩ := a
        simp only at hsp
        subst hsp; rfl
      have hlt : a.block < W.heap.size := by
        have := World.block_lt_of_cell? _ _ h00
        rw [addr_addx a hsp] at this
        exact this
      refine ⟨x, a.block, a.off, cs'.toArray, hae, hlt, hd, fun j u hj => ?_⟩
      have := hcell j u hj
      rw [addr_addx a hsp] at this
      rw [Nat.add_assoc]; exact this
    obtain ⟨l, hll, hlp⟩ := list_of hx
    have hby : len0 * Tryd.prog.bytesOf e ≤ reachBytes := by
      have h1 := hwt ((((List.range len0).map D).length + ((List.range (m - len0)).map fun j => D (len0 + j)).length) * Tryd.prog.bytesOf e) (by
        rw [hx0.1]
        simp only [DataW.weights, ht]
        exact List.mem_cons_self ..)
      refine Nat.le_trans (Nat.mul_le_mul_right _ ?_) h1
      simp
    refine ⟨l, ⟨some a, cap0, by rw [hll], by rw [hll]; simp only [maxLen] at hm; omega, fun i h => ?_⟩, by rw [hll]; exact hby⟩
    obtain ⟨b, o, cs, h1, h2, h3, h4⟩ := hlp i h
    exact ⟨b, o, cs, by rw [h1], h2, h3, h4⟩
theorem string_bulk {t : TypeId} {n : Nat} {y : DataW H × List MemPlace} (ht : Tryd.prog.underlying t = some .string) (h : DataW.trod enc Tryd.prog W base' (fun _ => true) true n t [v] = some y) {N : Nat} (hbk : Rows.uptoBulk y.1 ≤ N) : ∃ s : ByteArray, v = .string s ∧ s.size ≤ N := by
  obtain ⟨k, hcs, hy, hw⟩ := DataW.trod_string ht h
  simp at hcs
  subst hy
  refine ⟨k, hcs, ?_⟩
  simp only [Rows.uptoBulk] at hbk
  have h3 : k.data.toList.length = k.size := by rw [Array.length_toList]; rfl
  omega
set_option maxRecDepth 100000 in
theorem recs_up (hv : Value.okWide Tryd.prog W .any base 22 v) (h : DataW.Trod enc Tryd.prog W base' (fun _ => true) true 22 v d p) (hwt : ∀ n ∈ d.weights Tryd.prog 22, n ≤ reachBytes) (hbk : Rows.uptoBulk d ≤ 1048576) : ∃ l, RecsP W v l ∧ ∀ x ∈ l, x.at_.size ≤ 1048576 := by
  obtain ⟨fuel, hf⟩ := h
  rw [okWide_cells Tryd.underlying22 hv] at hf
  have : ∃ l, RowS W 7 (fun (cs : Array Value) (x : Nr) => ∃ B c, cs = recC x B c ∧ StrsA W W.heap.size B x.chunks ∧ x.chunks.length ≤ c ∧ (B = none → c = 0) ∧ NrB x ∧ x.at_.size ≤ 1048576) v l ∧ l.length * Tryd.prog.bytesOf 72 ≤ reachBytes := by
    refine rows_bulk (fs := _) (fun (cs : Array Value) (x : Nr) => ∃ B c, cs = recC x B c ∧ StrsA W W.heap.size B x.chunks ∧ x.chunks.length ≤ c ∧ (B = none → c = 0) ∧ NrB x ∧ x.at_.size ≤ 1048576) Tryd.underlying22 Tryd.underlying72 (by decide) (by kernel_rfl) (by kernel_rfl) hf hwt hbk fun cs hs hf => ?_
    obtain ⟨u0, n0, y0, h0, t0, g0⟩ := hf 0 _ rfl
    obtain ⟨u1, n1, y1, h1, t1, g1⟩ := hf 1 _ rfl
    obtain ⟨u2, n2, y2, h2, t2, g2⟩ := hf 2 _ rfl
    obtain ⟨u3, n3, y3, h3, t3, g3⟩ := hf 3 _ rfl
    obtain ⟨u4, n4, y4, h4, t4, g4⟩ := hf 4 _ rfl
    obtain ⟨u5, n5, y5, h5, t5, g5⟩ := hf 5 _ rfl
    obtain ⟨u6, n6, y6, h6, t6, g6⟩ := hf 6 _ rfl
    obtain ⟨kk, rfl, _⟩ := int_trod Tryd.underlying3 t0
    obtain ⟨at_, rfl, z1⟩ := string_sized Tryd.underlying9 t1 g1.1
    obtain ⟨md, rfl, z2⟩ := int_trod Tryd.underlying3 t2
    obtain ⟨tm, rfl, z3⟩ := int_trod Tryd.underlying3 t3
    obtain ⟨sz, rfl, z4⟩ := int_trod Tryd.underlying3 t4
    obtain ⟨ch, B, c, rfl, k1, k2, k3, k4, k5⟩ := strs_sized t5 g5.1
    obtain ⟨tg, rfl, z6⟩ := string_sized Tryd.underlying9 t6 g6.1
    obtain ⟨pa', e0, y0⟩ := string_bulk Tryd.underlying9 t1 g1.2
    injection e0 with e0
    subst e0
    exact ⟨⟨kk, at_, md, tm, sz, ch, tg⟩, B, c, arr7 hs h0 h1 h2 h3 h4 h5 h6, k1, k2, k3, ⟨z1, z6, by show ch.length ≤ _; omega, k5, z4, z2, z3⟩, y0⟩
  obtain ⟨l, ⟨A, c, rfl, hl, hp⟩, hz⟩ := this
  rw [show Tryd.prog.bytesOf 72 = 88 by kernel_rfl] at hz
  have hz := reach47 hz
  refine ⟨l, ⟨A, c, rfl, fun hpos => ?_, by omega, fun x hx => ?_⟩, fun x hx => ?_⟩
  · obtain ⟨b, o, cs, rfl, hb, _, _⟩ := hp 0 hpos
    refine ⟨b, o, rfl, hb, fun i x hi => ?_⟩
    have hil : i < l.length := (List.getElem?_eq_some_iff.1 hi).1
    obtain ⟨b2, o2, cs2, e, _, ⟨B, c', hcs, q1, q2, q3, _⟩, hcell2⟩ := hp i hil
    injection e with e
    injection e with e1 e2
    subst e1 e2
    obtain rfl : l[i] = x := (List.getElem?_eq_some_iff.1 hi).2
    exact ⟨B, c', fun j u hj => hcell2 j u (by rw [hcs]; exact hj), q1, q2, q3⟩
  · obtain ⟨i, hi, rfl⟩ := List.getElem_of_mem hx
    obtain ⟨_, _, _, _, _, ⟨_, _, _, _, _, _, hb, _⟩, _⟩ := hp i hi
    exact hb
  · obtain ⟨i, hi, rfl⟩ := List.getElem_of_mem hx
    obtain ⟨_, _, _, _, _, ⟨_, _, _, _, _, _, _, hb⟩, _⟩ := hp i hi
    exact hb
end
end Go.Proofs.YtaoejgnfoecpfaaDoor
namespace Go.Proofs.YtaoejgnfoecpfaaDoor
set_option linter.unusedVariables false
set_option linter.unusedSimpArgs false
set_option linter.unusedSectionVars false
open Go.RowKit

theorem inN_at {l : List Nr} {N : Nat} (h : ∀ x ∈ l, x.at_.size ≤ N) : ∀ x ∈ inN l, x.at_.size ≤ N := fun x hx => by
  obtain ⟨y, hy, rfl⟩ := List.mem_map.1 hx
  obtain ⟨z, hz, rfl⟩ := List.mem_map.1 hy
  have hb := h z (List.mem_of_mem_take hz)
  unfold tell cutN
  simp only
  split
  · exact hb
  split
  · exact hb
  split
  · exact hb
  · exact Nat.zero_le _
theorem chs_le : ∀ (l : List Nr) (out : List ByteArray), (∀ x ∈ l, x.chunks.length ≤ 1000) → (l.foldl addN out).length ≤ out.length + l.length * 1000
  | [], out, _ => Nat.le_add_right _ _
  | x :: r, out, h => by
    have h1 := chs_le r (addN out x) fun y hy => h y (by simp [hy])
    have h2 := addN_len out x
    have h3 := h x (by simp)
    rw [List.foldl_cons, List.length_cons]
    omega
theorem chs_len {l : List Nr} (h : ∀ x ∈ l, x.chunks.length ≤ 1000) (hl : l.length ≤ 1000) : (chsN l).length ≤ 9223372036854775807 := by
  have := chs_le l [] h
  unfold chsN
  rw [List.length_nil] at this
  omega
set_option maxRecDepth 100000 in
set_option maxHeartbeats 6400000 in
theorem ntexts_all (l : List Nr) (A : Option Addr) (c : Nat) (w : World) (he : Env w) (ha : RecsI w A l) (hl : l.length ≤ 140737488355328) (hb : ∀ x ∈ l, NrB x) (hp : ∀ x ∈ l, x.at_.size ≤ 1100000) :
    Calls Tryd.prog 9 #[.slice A l.length c] w fun e w' => e = .returned (.bool true) ∧ Below w.heap.size w w' := by
  have HE := Lib.hid fun W (hb : Below w.heap.size w W) => he.below hb
  have HAW := Lib.hid fun W (h : Env W) => awake12_any W h
  have HA := Lib.hid fun W (h : Below w.heap.size w W) => allIn_any l A c W (ha.below h) hl
  have HBA := Lib.hid (inN_bnd hb)
  have HPA := Lib.hid (inN_pure l)
  have HTA := Lib.hid (inN_tell l)
  have HAT := Lib.hid (inN_at hp)
  have hla := inN_le l
  clear he ha hb hp
  generalize inN l = p at *
  have HNB := Lib.hid (show ∀ x ∈ p, NrB x from fun x hx => (HBA.out x hx).1)
  have HLE := Lib.hid (show ∀ x ∈ p, x.chunks.length ≤ 1000000 from fun x hx => Nat.le_trans (HBA.out x hx).2 (by decide))
  have HLK := Lib.hid (show ∀ x ∈ p, x.chunks.length ≤ 1000 from fun x hx => Nat.le_trans (HBA.out x hx).2 (by decide))
  go_enter Tryd.func9, Tryd.ntmps9
  go_wp2_with fail
  refine (HA.out _ (Below.refl _ _)).mono ?_
  rintro e w1 ⟨X, cx, rfl, hx1, hb1⟩
  have HB1 := Lib.hid hb1
  have HX1 := Lib.hid hx1
  clear hx1 hb1
  go_wp2_with fail
  refine (list_any p X cx w1 HX1.out HLE.out (by omega)).mono ?_
  rintro e w2 ⟨E, ce, rfl, hr2, hg2, hb2⟩
  rw [HTA.out] at hr2
  have HB2 := Lib.hid (HB1.out.trans (hb2.mono HB1.out.size))
  have HX2 := Lib.hid (HX1.out.below hb2)
  have HR2 := Lib.hid hr2
  clear hb2 hr2 HB1 HX1
  go_wp2_with fail
  refine (nencode_any p X cx w2 (HE.out _ HB2.out) HX2.out HNB.out (by omega)).mono ?_
  rintro e w3 ⟨rfl, hb3⟩
  have HB3 := Lib.hid (HB2.out.trans (hb3.mono HB2.out.size))
  have HX3 := Lib.hid (HX2.out.below hb3)
  have HR3 := Lib.hid (HR2.out.below hb3)
  clear hb3 HB2 HX2 HR2
  go_wp2_with fail
  refine (rcheck_big p E ce w3 HR3.out HNB.out HAT.out (by omega) hg2).mono ?_
  rintro e w4 ⟨rfl, hb4⟩
  have HB4 := Lib.hid (HB3.out.trans (hb4.mono HB3.out.size))
  have HX4 := Lib.hid (HX3.out.below hb4)
  have HR4 := Lib.hid (HR3.out.below hb4)
  clear hb4 HB3 HX3 HR3
  go_wp2_with fail
  refine (HAW.out _ (HE.out _ HB4.out)).mono ?_
  rintro e w5 ⟨rfl, hb5⟩
  have HB5 := Lib.hid (HB4.out.trans (hb5.mono HB4.out.size))
  have HX5 := Lib.hid (HX4.out.below hb5)
  have HR5 := Lib.hid (HR4.out.below hb5)
  clear hb5 HB4 HX4 HR4
  go_wp2_with fail
  refine (HA.out _ HB5.out).mono ?_
  rintro e w6 ⟨X6, cx6, rfl, hx6, hb6⟩
  have HB6 := Lib.hid (HB5.out.trans (hb6.mono HB5.out.size))
  have HX6 := Lib.hid (HX5.out.below hb6)
  have HR6 := Lib.hid (HR5.out.below hb6)
  have HY6 := Lib.hid hx6
  clear hb6 hx6 HB5 HX5 HR5
  go_wp2_with fail
  refine (ncheck_any p X6 cx6 w6 (HE.out _ HB6.out) HY6.out HNB.out (by omega)).mono ?_
  rintro e w7 ⟨rfl, hb7⟩
  have HB7 := Lib.hid (HB6.out.trans (hb7.mono HB6.out.size))
  have HX7 := Lib.hid (HX6.out.below hb7)
  have HR7 := Lib.hid (HR6.out.below hb7)
  clear hb7 HB6 HX6 HR6 HY6
  go_wp2_with fail
  refine (list_any p X cx w7 HX7.out HLE.out (by omega)).mono ?_
  rintro e w8 ⟨F, cf, rfl, hr8, hg8, hb8⟩
  rw [HTA.out] at hr8
  have HB8 := Lib.hid (HB7.out.trans (hb8.mono HB7.out.size))
  have HX8 := Lib.hid (HX7.out.below hb8)
  have HR8 := Lib.hid (HR7.out.below hb8)
  have HS8 := Lib.hid hr8
  clear hb8 hr8 hg8 HB7 HX7 HR7
  have hsm := nsame_any p p F E cf ce w8 HS8.out HR8.out (by omega) (fun x hx => Nat.le_trans (HBA.out x hx).2 (by decide))
  rw [show decide (p = p) = true from decide_eq_true rfl] at hsm
  go_wp2_with fail
  refine hsm.mono ?_
  rintro e w9 ⟨rfl, hb9⟩
  have HB9 := Lib.hid (HB8.out.trans (hb9.mono HB8.out.size))
  have HX9 := Lib.hid (HX8.out.below hb9)
  have HR9 := Lib.hid (HR8.out.below hb9)
  clear hsm hb9 HB8 HX8 HR8 HS8
  go_wp2_with fail
  refine (nchunks_any p X cx w9 HX9.out (by omega) (fun x hx => ⟨HLK.out x hx, (HNB.out x hx).cs⟩)).mono ?_
  rintro e w10 ⟨G, cg, rfl, hs10, hb10⟩
  have HB10 := Lib.hid (HB9.out.trans (hb10.mono HB9.out.size))
  have HR10 := Lib.hid (HR9.out.below hb10)
  have HS10 := Lib.hid hs10
  clear hb10 hs10 HB9 HX9 HR9
  go_wp2_with fail
  refine (rchunks_any p E ce w10 HR10.out (by omega) HLK.out).mono ?_
  rintro e w11 ⟨K, ck, rfl, hs11, hb11⟩
  have HB11 := Lib.hid (HB10.out.trans (hb11.mono HB10.out.size))
  have HR11 := Lib.hid (HR10.out.below hb11)
  have hs12 := same10_any G K cg ck (chsN p) w11 (HS10.out.below hb11) hs11 (chs_len HLK.out (by omega))
  clear hb11 hs11 HB10 HR10 HS10
  go_wp2_with fail
  refine hs12.mono ?_
  rintro e w12 ⟨rfl, hb12⟩
  have HB12 := Lib.hid (HB11.out.trans (hb12.mono HB11.out.size))
  have HR12 := Lib.hid (HR11.out.below hb12)
  clear hs12 hb12 HB11 HR11
  by_cases hz : chkN p = 0
  · have hse : encS p = bs (encN p) := if_pos hz
    have hzp := enc_size hz
    have hdc := decN_enc hz HPA.out
    have hfit := (chk_fit hz)
    rw [hse, hz]
    have HTX := Lib.hid fun W (h : RecsA W E p) => ntext_any p E ce W h hfit.2 hfit.1
    generalize bs (encN p) = s at *
    have hd := ndecode_any s w12 (HE.out _ HB12.out) (by omega)
    unfold DecNPost at hd
    rw [hdc] at hd
    clear hse hdc hfit hz
    go_wp2_with fail
    refine hd.mono ?_
    rintro e w13 ⟨D, cd, rfl, hn13, hb13⟩
    have HB13 := Lib.hid (HB12.out.trans (hb13.mono HB12.out.size))
    have HR13 := Lib.hid (HR12.out.below hb13)
    have HN13 := Lib.hid hn13
    clear hd hb13 hn13 HB12 HR12
    have hss : (s.toList == s.toList) = true := by simp
    go_wp2_with fail
    refine (HTX.out _ HR13.out).mono ?_
    rintro e w14 ⟨rfl, hb14⟩
    have HB14 := Lib.hid (HB13.out.trans (hb14.mono HB13.out.size))
    have HR14 := Lib.hid (HR13.out.below hb14)
    have HN14 := Lib.hid (HN13.out.below hb14)
    clear hb14 HB13 HR13 HN13
    go_wp2_with fail
    refine (list_any p D cd w14 HN14.out HLE.out (by omega)).mono ?_
    rintro e w15 ⟨M, cm, rfl, hr15, hg15, hb15⟩
    rw [HTA.out] at hr15
    have HB15 := Lib.hid (HB14.out.trans (hb15.mono HB14.out.size))
    have hsm := nsame_any p p M E cm ce w15 hr15 (HR14.out.below hb15) (by omega) (fun x hx => Nat.le_trans (HBA.out x hx).2 (by decide))
    rw [show decide (p = p) = true from decide_eq_true rfl] at hsm
    clear hb15 hr15 hg15 HB14 HR14 HN14
    go_wp2_with fail
    refine hsm.mono ?_
    rintro e w16 ⟨rfl, hb16⟩
    have HB16 := Lib.hid (HB15.out.trans (hb16.mono HB15.out.size))
    go_wp2
    go_ret
    exact ⟨rfl, HB16.out⟩
  · have hse : encS p = noB := if_neg hz
    have hne : (((chkN p : Nat) : Int) != 0) = true := by rw [bne_iff_ne]; omega
    rw [hse]
    unfold noB
    go_wp2
    go_ret
    exact ⟨rfl, HB12.out⟩
theorem ntexts_card (l : List Nr) (v : Value) (w : World) (he : Env w) (hp : RecsP w v l ∧ ∀ x ∈ l, x.at_.size ≤ 1048576) :
    Calls Tryd.prog 9 #[v] w fun e w' => e = .returned (.bool true) ∧ Below w.heap.size w w' := by
  obtain ⟨⟨A, c, rfl, hi, hl, hb⟩, hz⟩ := hp
  exact ntexts_all l A c w he hi hl hb fun x hx => Nat.le_trans (hz x hx) (by decide)
end Go.Proofs.YtaoejgnfoecpfaaDoor
