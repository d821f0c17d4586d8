/- Manifests: the document's Text. Manifests: Same, the law's Few, a text's Few. Packs on a disk: Names. -/
import Derived.Test.YtpeepdkeicgkiaaGreatDoorZo11
import Derived.Maps.AppendAt
import Derived.WalkSmall
import Derived.Laws.AppendOwnNone
import Derived.Test.YtpeepdkeicgkiaaGreatDoorZo19
namespace Go.Proofs.YtpeepdkeicgkiaaGreatDoor
set_option linter.unusedVariables false
set_option linter.unusedSimpArgs false
set_option linter.unusedSectionVars false
open Go.RowKit

set_option maxRecDepth 100000 in
set_option maxHeartbeats 400000 in
theorem rnum_any (n : Nat) (w : World) (hn : n ≤ 9223372036854775807) : Calls Tryz.prog 53 #[.int .i64 n] w fun e w' => e = .returned (.string ⟨(varL n).toArray⟩) ∧ Below w.heap.size w w' := by
  have H1 := Lib.hid fun W => refvar_any n W (by omega)
  have hu : IntKind.u64.wrap (n : Int) = (n : Int) := IntWalk.u64_in _ (by omega)
  clear hn
  go_enter Tryz.func53, Tryz.ntmps53
  go_wp2_with fail
  refine (H1.out _).mono ?_
  rintro e w1 ⟨rfl, hb⟩
  go_wp2
  go_ret
  exact ⟨rfl, hb⟩
theorem cat_snoc (l : List ByteArray) (k : Nat) (h : k < l.length) : catL (l.take (k + 1)) = catL (l.take k) ++ l[k].data.toList := by
  rw [List.take_succ_eq_append_getElem h]
  unfold catL
  rw [List.map_append, List.flatten_append]
  simp only [List.map_cons, List.map_nil, List.flatten_cons, List.flatten_nil, List.append_nil]
set_option maxRecDepth 100000 in
set_option maxHeartbeats 3200000 in
theorem rtext_any (m : Man) (A : Option Addr) (c : Nat) (w : World) (hst : StrsA w w.heap.size A m.chunks) (hg : goodM m = true) :
    Calls Tryz.prog 20 #[manV m A c] w fun e w' => e = .returned (.string (bs (manL m))) ∧ Below w.heap.size w w' := by
  have hb0 : Below w.heap.size w (w.alloc (.cells #[.int .i64 m.time, .string m.tag, .string m.parent, .int .i64 m.size, .slice A m.chunks.length c] 54)) := (Below.refl w.heap.size w).alloc (Nat.le_refl _) _
  have HBL := Lib.hid (Blk.new w 54 #[.int .i64 m.time, .string m.tag, .string m.parent, .int .i64 m.size, .slice A m.chunks.length c])
  have HB0 := Lib.hid hb0
  clear hb0
  obtain ⟨⟨t1, t2⟩, g1, p1, ⟨z1, z2, c1, c2⟩, h32⟩ := good_parts hg
  obtain ⟨bk, off, rfl, hbk, hcell⟩ := hst (by omega)
  have HHC := Lib.hid hcell
  have H32 := Lib.hid h32
  have HTXT := Lib.hid (show manL m = [115, 110, 97, 112] ++ varL m.time.toNat ++ textL m.tag ++ textL m.parent ++ varL m.size.toNat ++ varL m.chunks.length ++ catL m.chunks from rfl)
  clear hcell h32 hst hg
  generalize manL m = mL at *
  obtain ⟨tm, tag, par, sz, l⟩ := m
  unfold manV
  simp only at *
  obtain ⟨tn, rfl⟩ : ∃ n : Nat, tm = (n : Int) := ⟨tm.toNat, by omega⟩
  obtain ⟨sn, rfl⟩ : ∃ n : Nat, sz = (n : Int) := ⟨sz.toNat, by omega⟩
  have hvar : ∀ n : Nat, n ≤ 253402300799 → ∃ v : ByteArray, v.data.toList = varL n ∧ v.size ≤ 11 ∧ ∀ W, Calls Tryz.prog 53 #[.int .i64 n] W fun e w' => e = .returned (.string v) ∧ Below W.heap.size W w' := fun n hn => ⟨⟨(varL n).toArray⟩, by simp, var_size n, fun W => rnum_any n W (by omega)⟩
  obtain ⟨v1, e1, s1, H1⟩ := hvar tn (by omega)
  obtain ⟨v2, e2, s2, H2⟩ := hvar sn (by omega)
  obtain ⟨v3, e3, s3, H3⟩ := hvar l.length (by omega)
  obtain ⟨x1, f1, r1, K1⟩ := hvar tag.size (by omega)
  obtain ⟨x2, f2, r2, K2⟩ := hvar par.size (by omega)
  clear hvar
  have HV1 := Lib.hid H1
  have HV2 := Lib.hid H2
  have HV3 := Lib.hid H3
  have HX1 := Lib.hid K1
  have HX2 := Lib.hid K2
  clear H1 H2 H3 K1 K2
  have HE := Lib.hid (show ((⟨#[115, 110, 97, 112]⟩ : ByteArray) ++ v1 ++ x1 ++ tag ++ x2 ++ par ++ v2 ++ v3).data.toList ++ catL l = mL by
    rw [HTXT.out]
    unfold textL
    simp only [ByteArray.data_append, Array.toList_append, e1, e2, e3, f1, f2, Int.toNat_natCast, List.append_assoc])
  have p0 : (⟨#[115, 110, 97, 112]⟩ : ByteArray).size = 4 := rfl
  have hz : ((⟨#[115, 110, 97, 112]⟩ : ByteArray) ++ v1 ++ x1 ++ tag ++ x2 ++ par ++ v2 ++ v3).size ≤ 1000 := by simp only [ByteArray.size_append]; omega
  have y1 := fun W => run_string_add_sum (P := Tryz.prog) W (⟨#[115, 110, 97, 112]⟩ : ByteArray) v1 (by first | omega | (simp only [ByteArray.size_append]; omega))
  have y2 := fun W => run_string_add_sum (P := Tryz.prog) W ((⟨#[115, 110, 97, 112]⟩ : ByteArray) ++ v1) x1 (by first | omega | (simp only [ByteArray.size_append]; omega))
  have y3 := fun W => run_string_add_sum (P := Tryz.prog) W ((⟨#[115, 110, 97, 112]⟩ : ByteArray) ++ v1 ++ x1) tag (by first | omega | (simp only [ByteArray.size_append]; omega))
  have y4 := fun W => run_string_add_sum (P := Tryz.prog) W ((⟨#[115, 110, 97, 112]⟩ : ByteArray) ++ v1 ++ x1 ++ tag) x2 (by first | omega | (simp only [ByteArray.size_append]; omega))
  have y5 := fun W => run_string_add_sum (P := Tryz.prog) W ((⟨#[115, 110, 97, 112]⟩ : ByteArray) ++ v1 ++ x1 ++ tag ++ x2) par (by first | omega | (simp only [ByteArray.size_append]; omega))
  have y6 := fun W => run_string_add_sum (P := Tryz.prog) W ((⟨#[115, 110, 97, 112]⟩ : ByteArray) ++ v1 ++ x1 ++ tag ++ x2 ++ par) v2 (by first | omega | (simp only [ByteArray.size_append]; omega))
  have y7 := fun W => run_string_add_sum (P := Tryz.prog) W ((⟨#[115, 110, 97, 112]⟩ : ByteArray) ++ v1 ++ x1 ++ tag ++ x2 ++ par ++ v2) v3 (by first | omega | (simp only [ByteArray.size_append]; omega))
  have HSZ := Lib.hid hz
  clear e1 e2 e3 f1 f2 p0 s1 s2 s3 r1 r2 hz
  go_enter Tryz.func20, Tryz.ntmps20
  have hS : (w.alloc (.cells #[.int .i64 tn, .string tag, .string par, .int .i64 sn, .slice (some ⟨bk, off, none⟩) l.length c] 54)).cell? ⟨w.heap.size, 0, none⟩ = some (.int .i64 tn) ∧ (w.alloc (.cells #[.int .i64 tn, .string tag, .string par, .int .i64 sn, .slice (some ⟨bk, off, none⟩) l.length c] 54)).cell? ⟨w.heap.size, 1, none⟩ = some (.string tag) ∧ (w.alloc (.cells #[.int .i64 tn, .string tag, .string par, .int .i64 sn, .slice (some ⟨bk, off, none⟩) l.length c] 54)).cell? ⟨w.heap.size, 2, none⟩ = some (.string par) ∧ (w.alloc (.cells #[.int .i64 tn, .string tag, .string par, .int .i64 sn, .slice (some ⟨bk, off, none⟩) l.length c] 54)).cell? ⟨w.heap.size, 3, none⟩ = some (.int .i64 sn) ∧ (w.alloc (.cells #[.int .i64 tn, .string tag, .string par, .int .i64 sn, .slice (some ⟨bk, off, none⟩) l.length c] 54)).cell? ⟨w.heap.size, 4, none⟩ = some (.slice (some ⟨bk, off, none⟩) l.length c) ∧ Below w.heap.size w (w.alloc (.cells #[.int .i64 tn, .string tag, .string par, .int .i64 sn, .slice (some ⟨bk, off, none⟩) l.length c] 54)) := ⟨HBL.out.cell 0, HBL.out.cell 1, HBL.out.cell 2, HBL.out.cell 3, HBL.out.cell 4, HB0.out⟩
  have HS := Lib.hid hS
  clear hS
  go_upto_region 1 with fail
  go_region_held3 (fun W => W.cell? ⟨w.heap.size, 0, none⟩ = some (.int .i64 tn) ∧ W.cell? ⟨w.heap.size, 1, none⟩ = some (.string tag) ∧ W.cell? ⟨w.heap.size, 2, none⟩ = some (.string par) ∧ W.cell? ⟨w.heap.size, 3, none⟩ = some (.int .i64 sn) ∧ W.cell? ⟨w.heap.size, 4, none⟩ = some (.slice (some ⟨bk, off, none⟩) l.length c) ∧ Below w.heap.size w W)
    (first | exact hk3 | exact keep5 HS.out (Below.refl _ _).drew | exact HS.out)
    (first
      | (go_at_call 53; ((with_reducible refine (HV1.out _).mono ?_); rintro e w3 ⟨rfl, hb3⟩; have hk3 := keep5 (by assumption) hb3))
      | (go_at_call 53; ((with_reducible refine (HV2.out _).mono ?_); rintro e w3 ⟨rfl, hb3⟩; have hk3 := keep5 (by assumption) hb3))
      | (go_at_call 53; ((with_reducible refine (HV3.out _).mono ?_); rintro e w3 ⟨rfl, hb3⟩; have hk3 := keep5 (by assumption) hb3))
      | (go_at_call 53; ((with_reducible refine (HX1.out _).mono ?_); rintro e w3 ⟨rfl, hb3⟩; have hk3 := keep5 (by assumption) hb3))
      | (go_at_call 53; ((with_reducible refine (HX2.out _).mono ?_); rintro e w3 ⟨rfl, hb3⟩; have hk3 := keep5 (by assumption) hb3)))
  obtain ⟨k0, k1, k2, k3, k4, hbw⟩ := hk3
  have HBW := Lib.hid hbw
  have HC := Lib.hid fun (j : Nat) (u : ByteArray) (hj : l[j]? = some u) => (hbw.cell (p := ⟨bk, off + j, none⟩) hbk).trans (HHC.out j u hj)
  clear hbw hb3 y1 y2 y3 y4 y5 y6 y7
  generalize ((⟨#[115, 110, 97, 112]⟩ : ByteArray) ++ v1 ++ x1 ++ tag ++ x2 ++ par ++ v2 ++ v3) = hd at *
  go_wp2
  go_loop [3, 38] (fun a t => ∃ (k : Nat) (acc : ByteArray), a = .string acc ∧ t = .int .i64 (k : Nat) ∧ k ≤ l.length ∧ acc.data.toList = hd.data.toList ++ catL (l.take k) ∧ acc.size ≤ 1000 + 32 * k) (fun _ t => l.length - (intOf t).toNat)
  case atStart => exact ⟨0, hd, rfl, rfl, Nat.zero_le _, by simp [catL], by have := HSZ.out; omega⟩
  case round =>
    obtain ⟨k, acc, rfl, rfl, hk, hac, haz⟩ := hrel
    have HAC := Lib.hid hac
    clear hac
    by_cases hkl : k < l.length
    · have hcx := HC.out k l[k] (List.getElem?_eq_getElem hkl)
      have HSN := Lib.hid (cat_snoc l k hkl)
      have hz := H32.out l[k] (List.getElem_mem hkl)
      generalize l[k] = x at *
      have y1 := fun W => run_string_add_sum (P := Tryz.prog) W acc x (by omega)
      go_wp2
      go_round
      case rel => exact ⟨k + 1, acc ++ x, rfl, by go_num, by omega, by rw [HSN.out, ByteArray.data_append, Array.toList_append, HAC.out, List.append_assoc], by rw [ByteArray.size_append]; omega⟩
      case measure => simp [intOf]; omega
    · have hke : k = l.length := by omega
      have HF := Lib.hid (show acc = bs mL by
        apply ba_inj
        rw [bs_list, HAC.out, hke, List.take_length]; exact HE.out)
      clear hke
      go_wp2
      go_ret
      exact ⟨ret_str HF.out, HBW.out⟩
end Go.Proofs.YtpeepdkeicgkiaaGreatDoor
namespace Go.Proofs.YtpeepdkeicgkiaaGreatDoor
set_option linter.unusedVariables false
set_option linter.unusedSimpArgs false
set_option linter.unusedSectionVars false
open Go.RowKit

def sameM (a b : Man) : Bool := decide (a.time = b.time) && decide (a.tag = b.tag) && decide (a.parent = b.parent) && decide (a.size = b.size) && decide (a.chunks = b.chunks)
theorem sameM_iff (a b : Man) : sameM a b = true ↔ a = b := by
  cases a; cases b
  simp [sameM, and_assoc]
set_option maxRecDepth 100000 in
set_option maxHeartbeats 400000 in
theorem sfew_any (s : ByteArray) (n : Nat) (w : World) (_hs : s.size ≤ 140737488355328) : Calls Tryz.prog 55 #[.string s, .int .i64 n] w fun e w' => e = .returned (.string (s.extract 0 n)) ∧ w = w' := by
  by_cases h : n < s.size
  · have h1 : (n : Int) < (s.size : Int) := by omega
    go_enter Tryz.func55, Tryz.ntmps55
    go_wp2
    go_ret
    exact ⟨rfl, rfl⟩
  · have h1 : ¬ (n : Int) < (s.size : Int) := by omega
    have HE := Lib.hid (show s.extract 0 n = s by
      apply ba_inj
      rw [ext_take, List.take_of_length_le (by rw [ba_len]; omega)])
    go_enter Tryz.func55, Tryz.ntmps55
    go_wp2
    go_ret
    exact ⟨ret_str HE.out.symm, rfl⟩
theorem txt_ne (a b : ByteArray) : (a.toList == b.toList) = decide (a = b) := by
  by_cases h : a = b
  · rw [h]; simp
  · rw [decide_eq_false h, beq_eq_false_iff_ne]
    exact fun e => h (bytes_eq e)
set_option maxRecDepth 100000 in
set_option maxHeartbeats 3200000 in
theorem msame_any (a b : Man) (A B : Option Addr) (c d : Nat) (w : World) (ha : StrsA w w.heap.size A a.chunks) (hb : StrsA w w.heap.size B b.chunks) (la : a.chunks.length ≤ 140737488355328) :
    Calls Tryz.prog 26 #[manV a A c, manV b B d] w fun e w' => e = .returned (.bool (sameM a b)) ∧ Below w.heap.size w w' := by
  have hb0 : Below w.heap.size w ((w.alloc (.cells #[.int .i64 a.time, .string a.tag, .string a.parent, .int .i64 a.size, .slice A a.chunks.length c] 54)).alloc (.cells #[.int .i64 b.time, .string b.tag, .string b.parent, .int .i64 b.size, .slice B b.chunks.length d] 54)) := ((Below.refl w.heap.size w).alloc (Nat.le_refl _) _).alloc (by simp) _
  have HB0 := Lib.hid hb0
  have HA := Lib.hid ha
  have HB := Lib.hid hb
  have HG := Lib.hid (show sameM a b = (decide (a.time = b.time) && decide (a.tag = b.tag) && decide (a.parent = b.parent) && decide (a.size = b.size) && decide (a.chunks = b.chunks)) from rfl)
  obtain ⟨t1, g1, p1, z1, l1⟩ := a
  obtain ⟨t2, g2, p2, z2, l2⟩ := b
  unfold manV
  simp only at *
  have q2 := txt_ne g1 g2
  have q3 := txt_ne p1 p2
  generalize sameM _ _ = r at *
  clear hb0 ha hb
  by_cases h1 : t1 = t2
  · have k1 : (t1 != t2) = false := by simp [h1]
    rw [decide_eq_true h1, Bool.true_and] at HG
    by_cases h2 : g1 = g2
    · rw [decide_eq_true h2] at q2 HG
      rw [Bool.true_and] at HG
      by_cases h3 : p1 = p2
      · rw [decide_eq_true h3] at q3 HG
        rw [Bool.true_and] at HG
        by_cases h4 : z1 = z2
        · have k4 : (z1 != z2) = false := by simp [h4]
          rw [decide_eq_true h4, Bool.true_and] at HG
          by_cases h5 : l1.length = l2.length
          · have k5 : ((l1.length : Int) != (l2.length : Int)) = false := by simp; omega
            have HL := Lib.hid h5
            clear h1 h2 h3 h4 h5
            go_enter Tryz.func26, Tryz.ntmps26
            go_wp2
            go_loopw [44] (fun t wr => ∃ k : Nat, t = .int .i64 (k : Nat) ∧ k ≤ l1.length ∧ l1.take k = l2.take k ∧ Blk wr w.heap.size 54 #[.int .i64 t1, .string g1, .string p1, .int .i64 z1, .slice A l1.length c] ∧ Blk wr (w.heap.size + 1) 54 #[.int .i64 t2, .string g2, .string p2, .int .i64 z2, .slice B l2.length d] ∧ Below w.heap.size w wr) (fun t _ => l1.length - (intOf t).toNat)
            case atStart =>
              refine ⟨0, rfl, Nat.zero_le _, rfl, (Blk.new w _ _).alloc _, ?_, HB0.out⟩
              have := Blk.new (w.alloc (.cells #[.int .i64 t1, .string g1, .string p1, .int .i64 z1, .slice A l1.length c] 54)) 54 #[.int .i64 t2, .string g2, .string p2, .int .i64 z2, .slice B l2.length d]
              rw [World.size_alloc] at this
              exact this
            case round =>
              obtain ⟨k, rfl, hk, hn, hb1, hb2, hbw⟩ := hrel
              have HN := Lib.hid hn
              have HB1 := Lib.hid hb1
              have HB2 := Lib.hid hb2
              have HBW := Lib.hid hbw
              clear hn hb1 hb2 hbw
              by_cases hkl : k < l1.length
              · obtain ⟨b1, o1, rfl, hl1, hc1⟩ := HA.out (by omega)
                obtain ⟨b2, o2, rfl, hl2, hc2⟩ := HB.out (by have := HL.out; omega)
                have hkl2 : k < l2.length := by have := HL.out; omega
                have hcx := (HBW.out.cell (p := ⟨b1, o1 + k, none⟩) hl1).trans (hc1 k l1[k] (List.getElem?_eq_getElem hkl))
                have hcy := (HBW.out.cell (p := ⟨b2, o2 + k, none⟩) hl2).trans (hc2 k l2[k] (List.getElem?_eq_getElem hkl2))
                have c4 : wr.cell? ⟨w.heap.size, 4, none⟩ = some (.slice (some ⟨b1, o1, none⟩) l1.length c) := HB1.out.cell 4
                have d4 : wr.cell? ⟨w.heap.size + 1, 4, none⟩ = some (.slice (some ⟨b2, o2, none⟩) l2.length d) := HB2.out.cell 4
                have HT1 := Lib.hid (List.take_succ_eq_append_getElem hkl)
                have HT2 := Lib.hid (List.take_succ_eq_append_getElem hkl2)
                have HEX := Lib.hid (show l1 = l2 → l1[k] = l2[k] from fun e => by subst e; rfl)
                have hk0 : (0 : Int) ≤ (k : Int) := by omega
                have hk1 : (k : Int) < (l1.length : Int) := by omega
                have hk2 : (k : Int) < (l2.length : Int) := by omega
                have hk3 : ((k : Int)).toNat = k := by omega
                clear hc1 hc2
                generalize l1[k] = x at *
                generalize l2[k] = y at *
                have q6 := txt_ne x y
                by_cases hxy : x = y
                · have HXY := Lib.hid hxy
                  rw [decide_eq_true hxy] at q6
                  clear hxy
                  go_upto_region 6 with fail
                  go_quiet (fail)
                  go_wp2
                  go_roundw
                  case rel => exact ⟨k + 1, by go_num, by omega, by rw [HT1.out, HT2.out, HN.out, HXY.out], HB1.out, HB2.out, by first | exact HBW.out | exact HBW.out.drew | exact Go.below_drewN HBW.out _⟩
                  case measure => simp [intOf]; omega
                · have HXY := Lib.hid hxy
                  rw [decide_eq_false hxy] at q6
                  clear hxy
                  have HF := Lib.hid (show r = false by rw [HG.out]; exact decide_eq_false (fun e => HXY.out (HEX.out e)))
                  go_upto_region 6 with fail
                  go_quiet (fail)
                  go_wp2
                  go_ret
                  exact ⟨ret_bool HF.out.symm, by first | exact HBW.out | exact HBW.out.drew | exact Go.below_drewN HBW.out _⟩
              · have HF := Lib.hid (show r = true by
                  rw [HG.out]
                  have h := HN.out
                  have hke : k = l1.length := by omega
                  rw [hke, List.take_length, HL.out, List.take_length] at h
                  exact decide_eq_true h)
                go_wp2
                go_ret
                exact ⟨ret_bool HF.out.symm, HBW.out⟩
          · rw [decide_eq_false (show ¬ l1 = l2 from fun e => h5 (by rw [e]))] at HG
            have k5 : ((l1.length : Int) != (l2.length : Int)) = true := by simp; omega
            clear h1 h2 h3 h4 h5
            go_enter Tryz.func26, Tryz.ntmps26
            go_wp2
            go_ret
            exact ⟨ret_bool (by simp [HG.out]), HB0.out⟩
        · rw [decide_eq_false h4] at HG
          have k4 : (z1 != z2) = true := by simpa using h4
          clear h1 h2 h3 h4
          go_enter Tryz.func26, Tryz.ntmps26
          go_wp2
          go_ret
          exact ⟨ret_bool (by simp [HG.out]), HB0.out⟩
      · rw [decide_eq_false h3] at q3 HG
        clear h1 h2 h3
        go_enter Tryz.func26, Tryz.ntmps26
        go_wp2
        go_ret
        exact ⟨ret_bool (by simp [HG.out]), HB0.out⟩
    · rw [decide_eq_false h2] at q2 HG
      clear h1 h2
      go_enter Tryz.func26, Tryz.ntmps26
      go_wp2
      go_ret
      exact ⟨ret_bool (by simp [HG.out]), HB0.out⟩
  · rw [decide_eq_false h1] at HG
    have k1 : (t1 != t2) = true := by simpa using h1
    clear h1
    go_enter Tryz.func26, Tryz.ntmps26
    go_wp2
    go_ret
    exact ⟨ret_bool (by simp [HG.out]), HB0.out⟩

/-- of at most 60 chunks -/
def fewM (m : Man) : Man := { m with chunks := m.chunks.take 60 }
def FewPost (m : Man) (w : World) (e : Ending) (w' : World) : Prop := ∃ A c, e = .returned (manV (fewM m) A c) ∧ StrsA w' w'.heap.size A (fewM m).chunks ∧ Below w.heap.size w w' ∧ (fewM m).chunks.length ≤ c ∧ ∀ b o, A = some ⟨b, o, none⟩ → 0 < (fewM m).chunks.length → w.heap.size ≤ b
def strsV (l : List ByteArray) : List Value := l.map Value.string
theorem own_strs {w : World} {B n c : Nat} {A : Option Addr} {l : List ByteArray} (h : w.ownsRow B 9 1 (.slice A n c) n (strsV l)) : StrsA w w.heap.size A l ∧ n = l.length := by
  have hn : n = l.length := by
    have := h.1
    simp [strsV] at this
    omega
  refine ⟨fun hl => ?_, hn⟩
  rcases h.2 with ⟨hv, _⟩ | ⟨g, cap, cur, hv, _⟩
  · simp at hv; omega
  · simp only [Value.slice.injEq] at hv
    obtain ⟨rfl, _, rfl⟩ := hv
    refine ⟨g, 0, rfl, (h.lt g rfl).2, fun j u hj => ?_⟩
    have hjl : j < l.length := (List.getElem?_eq_some_iff.1 hj).1
    rw [Nat.zero_add, h.cellAt j (by omega)]
    simp [strsV, hj]
theorem own_strs2 {w : World} {B n c : Nat} {A : Option Addr} {l : List ByteArray} (h : w.ownsRow B 9 1 (.slice A n c) n (strsV l)) (hl : 0 < l.length) : ∃ g, A = some ⟨g, 0, none⟩ ∧ B ≤ g ∧ g < w.heap.size ∧ ∀ (j : Nat) (u : ByteArray), l[j]? = some u → w.cell? ⟨g, 0 + j, none⟩ = some (.string u) := by
  have hn : n = l.length := by
    have := h.1
    simp [strsV] at this
    omega
  rcases h.2 with ⟨hv, _⟩ | ⟨g, cap, cur, hv, _⟩
  · simp at hv; omega
  · simp only [Value.slice.injEq] at hv
    obtain ⟨rfl, _, rfl⟩ := hv
    refine ⟨g, rfl, (h.lt g rfl).1, (h.lt g rfl).2, fun j u hj => ?_⟩
    have hjl : j < l.length := (List.getElem?_eq_some_iff.1 hj).1
    rw [Nat.zero_add, h.cellAt j (by omega)]
    simp [strsV, hj]
theorem own_form {w : World} {B n : Nat} {t : TypeId} {v : Value} {xs : List Value} (h : w.ownsRow B t 1 v n xs) : ∃ A c, v = .slice A n c ∧ n ≤ c := by
  rcases h.2 with ⟨hv, hn⟩ | ⟨g, cap, cur, hv, _, _, hc, _⟩
  · exact ⟨none, 0, by rw [hv, hn], by omega⟩
  · exact ⟨some ⟨g, 0, none⟩, cap, hv, hc⟩
theorem addr_add (b o j : Nat) : (⟨b, o, none⟩ : Addr).add j = ⟨b, o + j, none⟩ := by
  unfold Addr.add
  split <;> simp_all
set_option maxRecDepth 100000 in
set_option maxHeartbeats 1600000 in
theorem mfew_any (m : Man) (A : Option Addr) (c : Nat) (w : World) (hst : StrsA w w.heap.size A m.chunks) (hc : m.chunks.length ≤ c) (hA : A = none → m.chunks.length = 0 ∧ c = 0) (hm : c ≤ 140737488355328) :
    Calls Tryz.prog 10 #[manV m A c] w fun e w' => FewPost m w e w' := by
  have HST := Lib.hid hst
  have HAN := Lib.hid hA
  obtain ⟨tm, tag, par, sz, l⟩ := m
  unfold manV
  simp only at *
  clear hst hA
  cases A with
  | none =>
    obtain ⟨hl, hcz⟩ := HAN.out rfl
    have hnil : l = [] := List.eq_nil_of_length_eq_zero hl
    subst hnil
    subst hcz
    go_enter Tryz.func10, Tryz.ntmps10
    go_wp2
    refine bodyPost_ret (v := .agg #[.int .i64 tm, .string tag, .string par, .int .i64 sz, .slice (some ⟨w.heap.size + 1 + 1, 0, none⟩) 0 0]) (by simp [results, Tryz.results10, go_sem]) rfl ?_
    exact ⟨some ⟨w.heap.size + 1 + 1, 0, none⟩, 0, rfl, fun h => absurd h (by simp [fewM]), (((Below.refl _ w).alloc (Nat.le_refl _) _).alloc (by simp) _).alloc (by simp; omega) _, by simp [fewM], fun b o _ h => absurd h (by simp [fewM])⟩
  | some ad =>
    have hown : (((w.alloc (.cells #[.int .i64 tm, .string tag, .string par, .int .i64 sz, .slice (some ad) l.length c] 32)).alloc (.cells #[.int .i64 0, .string ⟨#[]⟩, .string ⟨#[]⟩, .int .i64 0, .slice none 0 0] 32)).alloc (.cells #[] 9)).ownsRow (w.heap.size + 2) 9 1 (.slice (some ⟨w.heap.size + 1 + 1, 0, none⟩) 0 0) 0 [] := by
      have := World.ownsRow_lit (e := 9) (size := 1) (base := w.heap.size + 2) ((w.alloc (.cells #[.int .i64 tm, .string tag, .string par, .int .i64 sz, .slice (some ad) l.length c] 32)).alloc (.cells #[.int .i64 0, .string ⟨#[]⟩, .string ⟨#[]⟩, .int .i64 0, .slice none 0 0] 32)) #[] 0 (by simp) (by decide) rfl
      rw [World.size_alloc, World.size_alloc] at this
      exact this
    obtain ⟨i0, hi0, hz0, hz1, hz2⟩ := info_parts infoS
    have HB3 := Lib.hid ((((Below.refl w.heap.size w).alloc (Nat.le_refl _) (.cells #[.int .i64 tm, .string tag, .string par, .int .i64 sz, .slice (some ad) l.length c] 32)).alloc (by simp) (.cells #[.int .i64 0, .string ⟨#[]⟩, .string ⟨#[]⟩, .int .i64 0, .slice none 0 0] 32)).alloc (by simp; omega) (.cells #[] 9))
    have HBX := Lib.hid (((Blk.new w 32 #[.int .i64 tm, .string tag, .string par, .int .i64 sz, .slice (some ad) l.length c]).alloc (.cells #[.int .i64 0, .string ⟨#[]⟩, .string ⟨#[]⟩, .int .i64 0, .slice none 0 0] 32)).alloc (.cells #[] 9))
    have hrx := (Blk.new (w.alloc (.cells #[.int .i64 tm, .string tag, .string par, .int .i64 sz, .slice (some ad) l.length c] 32)) 32 #[.int .i64 0, .string ⟨#[]⟩, .string ⟨#[]⟩, .int .i64 0, .slice none 0 0]).alloc (.cells #[] 9)
    rw [World.size_alloc] at hrx
    have HRX := Lib.hid hrx
    clear hrx
    have HNEWS := Lib.hid (show ∀ W, Below w.heap.size w W → ∀ (j : Nat) u, (strsV (l.take 60))[j]? = some u → W.cell? (ad.add j) = some u from fun W hW j u hj => by
      have hl : j < (l.take 60).length := by
        have := (List.getElem?_eq_some_iff.1 hj).1
        simpa [strsV] using this
      rw [List.length_take] at hl
      obtain ⟨b, o, h1, h2, h3⟩ := HST.out (by omega)
      injection h1 with h1
      subst h1
      rw [addr_add]
      simp only [strsV, List.getElem?_map] at hj
      have hx : (l.take 60)[j]? = some l[j] := by
        rw [List.getElem?_take, if_pos (by omega), List.getElem?_eq_getElem (by omega)]
      rw [hx] at hj
      simp only [Option.map_some, Option.some.injEq] at hj
      subst hj
      exact (hW.cell (p := ⟨b, o + j, none⟩) h2).trans (h3 j l[j] (List.getElem?_eq_getElem (by omega))))
    by_cases h60 : l.length ≤ 60
    · have h1 : ¬ (60 : Int) < (l.length : Int) := by omega
      have HLEN := Lib.hid (show (strsV (l.take 60)).length = l.length * 1 by simp [strsV]; omega)
      go_enter Tryz.func10, Tryz.ntmps10
      go_wp2_with (at_builtin; refine wpList_append_own_at _ rfl _ _ 30 rfl (w.heap.size + 2) 9 i0 _ 1 16 Tryz.underlying30 hi0 hz0 hz1 hz2 rfl (by decide) (.slice (some ⟨w.heap.size + 1 + 1, 0, none⟩) 0 0) 0 [] rfl hown ad l.length c (strsV (l.take 60)) rfl ?_ ?_ ?_ ?_ ?_ ?_ ?_; (exact HLEN.out); (intro j u hj; exact HNEWS.out _ HB3.out j u hj); (intro u hu; simp only [strsV, List.mem_map] at hu; obtain ⟨x, _, rfl⟩ := hu; rfl); (unfold maxLen; omega); omega; (simp); intro v' w5 hown5 hg5 _ hat; rw [Nat.zero_add, List.nil_append] at hown5; obtain ⟨A', c', rfl, hle⟩ := own_form hown5; have hB := (HBX.out.grown hg5 (by simp [Value.ownBlock] <;> omega)); have hR := (HRX.out.grown hg5 (by simp [Value.ownBlock] <;> omega)); have hlow : Below w.heap.size w w5 := HB3.out.grown hg5 (by simp; omega) (fun k hk => by simp [Value.ownBlock] at hk; omega); have f4 := hB.frozen 4; have c4 : w5.cell? ⟨w.heap.size, 4, none⟩ = some (.slice (some ad) l.length c) := hB.cell 4; have HSB := Lib.hid (hB.set_ 4 (.slice A' l.length c')); have HSR := Lib.hid (hR.far (p := ⟨w.heap.size, 4, none⟩) (by simp) (.slice A' l.length c')); have k0 : (w5.setCell ⟨w.heap.size, 4, none⟩ (.slice A' l.length c')).cell? ⟨w.heap.size, 0, none⟩ = some (.int .i64 tm) := HSB.out.cell 0; have k1 : (w5.setCell ⟨w.heap.size, 4, none⟩ (.slice A' l.length c')).cell? ⟨w.heap.size, 1, none⟩ = some (.string tag) := HSB.out.cell 1; have k2 : (w5.setCell ⟨w.heap.size, 4, none⟩ (.slice A' l.length c')).cell? ⟨w.heap.size, 2, none⟩ = some (.string par) := HSB.out.cell 2; have k3 : (w5.setCell ⟨w.heap.size, 4, none⟩ (.slice A' l.length c')).cell? ⟨w.heap.size, 3, none⟩ = some (.int .i64 sz) := HSB.out.cell 3; have k4 : (w5.setCell ⟨w.heap.size, 4, none⟩ (.slice A' l.length c')).cell? ⟨w.heap.size, 4, none⟩ = some (.slice A' l.length c') := HSB.out.cell 4; have r0 : (w5.setCell ⟨w.heap.size, 4, none⟩ (.slice A' l.length c')).cell? ⟨w.heap.size + 1, 0, none⟩ = some (.int .i64 0) := HSR.out.cell 0; have s0 : w5.frozen? ⟨w.heap.size + 1, 0, none⟩ = false := hR.frozen 0; have r1 : (w5.setCell ⟨w.heap.size, 4, none⟩ (.slice A' l.length c')).cell? ⟨w.heap.size + 1, 1, none⟩ = some (.string ⟨#[]⟩) := HSR.out.cell 1; have s1 : w5.frozen? ⟨w.heap.size + 1, 1, none⟩ = false := hR.frozen 1; have r2 : (w5.setCell ⟨w.heap.size, 4, none⟩ (.slice A' l.length c')).cell? ⟨w.heap.size + 1, 2, none⟩ = some (.string ⟨#[]⟩) := HSR.out.cell 2; have s2 : w5.frozen? ⟨w.heap.size + 1, 2, none⟩ = false := hR.frozen 2; have r3 : (w5.setCell ⟨w.heap.size, 4, none⟩ (.slice A' l.length c')).cell? ⟨w.heap.size + 1, 3, none⟩ = some (.int .i64 0) := HSR.out.cell 3; have s3 : w5.frozen? ⟨w.heap.size + 1, 3, none⟩ = false := hR.frozen 3; have r4 : (w5.setCell ⟨w.heap.size, 4, none⟩ (.slice A' l.length c')).cell? ⟨w.heap.size + 1, 4, none⟩ = some (.slice none 0 0) := HSR.out.cell 4; have s4 : w5.frozen? ⟨w.heap.size + 1, 4, none⟩ = false := hR.frozen 4)
      obtain ⟨hs5, hn5⟩ := own_strs (l := l.take 60) hown5
      refine bodyPost_ret (v := .agg #[.int .i64 tm, .string tag, .string par, .int .i64 sz, .slice A' l.length c']) (by simp [results, Tryz.results10, go_sem, r0, r1, r2, r3, r4]) rfl ?_
      refine ⟨A', c', ?_, ?_, ?_, ?_, ?_⟩
      · exact congrArg (fun n => Ending.returned (.agg #[.int .i64 tm, .string tag, .string par, .int .i64 sz, .slice A' n c'])) hn5
      · intro hl
        obtain ⟨g, rfl, hg1, hg2, hgc⟩ := own_strs2 hown5 hl
        refine ⟨g, 0, rfl, by simp; exact hg2, fun j u hj => ?_⟩
        rw [← hgc j u hj]
        refine World.cell?_of_block ?_
        rw [Below.heap_setCell _ _ _ _ (by simp; omega), Below.heap_setCell _ _ _ _ (by simp; omega), Below.heap_setCell _ _ _ _ (by simp; omega), Below.heap_setCell _ _ _ _ (by simp; omega), Below.heap_setCell _ _ _ _ (by simp; omega), Below.heap_setCell _ _ _ _ (by simp; omega)]
      · exact (((((hlow.setCell (p := ⟨w.heap.size, 4, none⟩) (Nat.le_refl _) _).setCell (p := ⟨w.heap.size + 1, 0, none⟩) (Nat.le_succ _) _).setCell (p := ⟨w.heap.size + 1, 1, none⟩) (Nat.le_succ _) _).setCell (p := ⟨w.heap.size + 1, 2, none⟩) (Nat.le_succ _) _).setCell (p := ⟨w.heap.size + 1, 3, none⟩) (Nat.le_succ _) _).setCell (p := ⟨w.heap.size + 1, 4, none⟩) (Nat.le_succ _) _
      · show (l.take 60).length ≤ c'
        rw [← hn5]; exact hle
      · intro b o e hl
        obtain ⟨g, e2, hg1, _⟩ := own_strs2 hown5 hl
        rw [e] at e2
        injection e2 with e2
        injection e2 with e2
        omega
    · have h1 : (60 : Int) < (l.length : Int) := by omega
      have h2 : (60 : Int) ≤ (c : Int) := by omega
      have HLEN := Lib.hid (show (strsV (l.take 60)).length = 60 * 1 by simp [strsV]; omega)
      go_enter Tryz.func10, Tryz.ntmps10
      go_wp2_with (at_builtin; refine wpList_append_own_at _ rfl _ _ 30 rfl (w.heap.size + 2) 9 i0 _ 1 16 Tryz.underlying30 hi0 hz0 hz1 hz2 rfl (by decide) (.slice (some ⟨w.heap.size + 1 + 1, 0, none⟩) 0 0) 0 [] rfl hown ad 60 c (strsV (l.take 60)) rfl ?_ ?_ ?_ ?_ ?_ ?_ ?_; (exact HLEN.out); (intro j u hj; exact HNEWS.out _ HB3.out j u hj); (intro u hu; simp only [strsV, List.mem_map] at hu; obtain ⟨x, _, rfl⟩ := hu; rfl); (unfold maxLen; omega); omega; (simp); intro v' w5 hown5 hg5 _ hat; rw [Nat.zero_add, List.nil_append] at hown5; obtain ⟨A', c', rfl, hle⟩ := own_form hown5; have hB := (HBX.out.grown hg5 (by simp [Value.ownBlock] <;> omega)); have hR := (HRX.out.grown hg5 (by simp [Value.ownBlock] <;> omega)); have hlow : Below w.heap.size w w5 := HB3.out.grown hg5 (by simp; omega) (fun k hk => by simp [Value.ownBlock] at hk; omega); have f4 := hB.frozen 4; have c4 : w5.cell? ⟨w.heap.size, 4, none⟩ = some (.slice (some ad) l.length c) := hB.cell 4; have HSB := Lib.hid (hB.set_ 4 (.slice A' 60 c')); have HSR := Lib.hid (hR.far (p := ⟨w.heap.size, 4, none⟩) (by simp) (.slice A' 60 c')); have k0 : (w5.setCell ⟨w.heap.size, 4, none⟩ (.slice A' 60 c')).cell? ⟨w.heap.size, 0, none⟩ = some (.int .i64 tm) := HSB.out.cell 0; have k1 : (w5.setCell ⟨w.heap.size, 4, none⟩ (.slice A' 60 c')).cell? ⟨w.heap.size, 1, none⟩ = some (.string tag) := HSB.out.cell 1; have k2 : (w5.setCell ⟨w.heap.size, 4, none⟩ (.slice A' 60 c')).cell? ⟨w.heap.size, 2, none⟩ = some (.string par) := HSB.out.cell 2; have k3 : (w5.setCell ⟨w.heap.size, 4, none⟩ (.slice A' 60 c')).cell? ⟨w.heap.size, 3, none⟩ = some (.int .i64 sz) := HSB.out.cell 3; have k4 : (w5.setCell ⟨w.heap.size, 4, none⟩ (.slice A' 60 c')).cell? ⟨w.heap.size, 4, none⟩ = some (.slice A' 60 c') := HSB.out.cell 4; have r0 : (w5.setCell ⟨w.heap.size, 4, none⟩ (.slice A' 60 c')).cell? ⟨w.heap.size + 1, 0, none⟩ = some (.int .i64 0) := HSR.out.cell 0; have s0 : w5.frozen? ⟨w.heap.size + 1, 0, none⟩ = false := hR.frozen 0; have r1 : (w5.setCell ⟨w.heap.size, 4, none⟩ (.slice A' 60 c')).cell? ⟨w.heap.size + 1, 1, none⟩ = some (.string ⟨#[]⟩) := HSR.out.cell 1; have s1 : w5.frozen? ⟨w.heap.size + 1, 1, none⟩ = false := hR.frozen 1; have r2 : (w5.setCell ⟨w.heap.size, 4, none⟩ (.slice A' 60 c')).cell? ⟨w.heap.size + 1, 2, none⟩ = some (.string ⟨#[]⟩) := HSR.out.cell 2; have s2 : w5.frozen? ⟨w.heap.size + 1, 2, none⟩ = false := hR.frozen 2; have r3 : (w5.setCell ⟨w.heap.size, 4, none⟩ (.slice A' 60 c')).cell? ⟨w.heap.size + 1, 3, none⟩ = some (.int .i64 0) := HSR.out.cell 3; have s3 : w5.frozen? ⟨w.heap.size + 1, 3, none⟩ = false := hR.frozen 3; have r4 : (w5.setCell ⟨w.heap.size, 4, none⟩ (.slice A' 60 c')).cell? ⟨w.heap.size + 1, 4, none⟩ = some (.slice none 0 0) := HSR.out.cell 4; have s4 : w5.frozen? ⟨w.heap.size + 1, 4, none⟩ = false := hR.frozen 4)
      obtain ⟨hs5, hn5⟩ := own_strs (l := l.take 60) hown5
      refine bodyPost_ret (v := .agg #[.int .i64 tm, .string tag, .string par, .int .i64 sz, .slice A' 60 c']) (by simp [results, Tryz.results10, go_sem, r0, r1, r2, r3, r4]) rfl ?_
      refine ⟨A', c', ?_, ?_, ?_, ?_, ?_⟩
      · exact congrArg (fun n => Ending.returned (.agg #[.int .i64 tm, .string tag, .string par, .int .i64 sz, .slice A' n c'])) hn5
      · intro hl
        obtain ⟨g, rfl, hg1, hg2, hgc⟩ := own_strs2 hown5 hl
        refine ⟨g, 0, rfl, by simp; exact hg2, fun j u hj => ?_⟩
        rw [← hgc j u hj]
        refine World.cell?_of_block ?_
        rw [Below.heap_setCell _ _ _ _ (by simp; omega), Below.heap_setCell _ _ _ _ (by simp; omega), Below.heap_setCell _ _ _ _ (by simp; omega), Below.heap_setCell _ _ _ _ (by simp; omega), Below.heap_setCell _ _ _ _ (by simp; omega), Below.heap_setCell _ _ _ _ (by simp; omega)]
      · exact (((((hlow.setCell (p := ⟨w.heap.size, 4, none⟩) (Nat.le_refl _) _).setCell (p := ⟨w.heap.size + 1, 0, none⟩) (Nat.le_succ _) _).setCell (p := ⟨w.heap.size + 1, 1, none⟩) (Nat.le_succ _) _).setCell (p := ⟨w.heap.size + 1, 2, none⟩) (Nat.le_succ _) _).setCell (p := ⟨w.heap.size + 1, 3, none⟩) (Nat.le_succ _) _).setCell (p := ⟨w.heap.size + 1, 4, none⟩) (Nat.le_succ _) _
      · show (l.take 60).length ≤ c'
        rw [← hn5]; exact hle
      · intro b o e hl
        obtain ⟨g, e2, hg1, _⟩ := own_strs2 hown5 hl
        rw [e] at e2
        injection e2 with e2
        injection e2 with e2
        omega
end Go.Proofs.YtpeepdkeicgkiaaGreatDoor
namespace Go.Proofs.YtpeepdkeicgkiaaGreatDoor
set_option linter.unusedVariables false
set_option linter.unusedSimpArgs false
set_option linter.unusedSectionVars false
open Go.RowKit Go.Maps

def Dk.names (D : Dk) (front : ByteArray) : List ByteArray := (kvNames D.folder).filter (isP front)
theorem filter_succ (p : ByteArray → Bool) (l : List ByteArray) {k : Nat} (h : k < l.length) : (l.take (k + 1)).filter p = (l.take k).filter p ++ (if p l[k] then [l[k]] else []) := by
  rw [List.take_succ_eq_append_getElem h, List.filter_append]
  cases hp : p l[k] <;> simp [hp]
theorem filter_le (p : ByteArray → Bool) (l : List ByteArray) (k : Nat) : ((l.take k).filter p).length ≤ k := Nat.le_trans (List.length_filter_le _ _) (by rw [List.length_take]; omega)
theorem ownsRow_base9 {w : World} {base base2 : Nat} {e : TypeId} {size n : Nat} {v : Value} {xs : List Value} (h : w.ownsRow base e size v n xs) (hb : base2 ≤ base) : w.ownsRow base2 e size v n xs := by
  obtain ⟨h1, h2⟩ := h
  refine ⟨h1, ?_⟩
  rcases h2 with h2 | ⟨g, cap, cur, hv, hg, r⟩
  · exact Or.inl h2
  · exact Or.inr ⟨g, cap, cur, hv, Nat.le_trans hb hg, r⟩
set_option maxRecDepth 100000 in
set_option maxHeartbeats 1600000 in
theorem names_any (b : Nat) (D : Dk) (L : Lay) (front : ByteArray) (w : World) (h : DiskAt w b D L) (hd : D.dead = false) (hl : D.folder.length ≤ 1000000) :
    Calls Tryz.prog 33 #[.pointer (some ⟨b, 0, none⟩), .string front] w fun e w' => ∃ v, e = .returned (.tuple #[v, .int .i64 0]) ∧ w'.ownsRow w.heap.size 9 1 v (D.names front).length ((D.names front).map .string) ∧ Below w.heap.size w w' := by
  have HL := Lib.hid (list_any b D L w h hd hl)
  have HNM := Lib.hid fun s (hs : s ∈ kvNames D.folder) => (show s.size ≤ 80 from by
    obtain ⟨v, hv⟩ := kvNames_mem hs
    exact h.ok.nam _ hv)
  have hll : (kvNames D.folder).length ≤ 1000000 := by rw [kvNames_len]; exact hl
  have HD := Lib.hid (show D.names front = (kvNames D.folder).filter (isP front) from rfl)
  generalize D.names front = out at *
  generalize kvNames D.folder = l at *
  clear h hd hl
  go_enter Tryz.func33, Tryz.ntmps33
  go_wp2_with fail
  refine HL.out.mono ?_
  rintro e w1 ⟨lv, rfl, hown, hb1⟩
  obtain ⟨A, c, rfl, _⟩ := own_form hown
  have HST := Lib.hid (own_strs hown).1
  have HB1 := Lib.hid hb1
  clear hown hb1 HL
  go_wp2
  go_loopw [8, 21] (fun ov iv wr => ∃ k : Nat, iv = .int .i64 (k : Nat) ∧ k ≤ l.length ∧ Hid (wr.ownsRow w1.heap.size 9 1 ov ((l.take k).filter (isP front)).length (((l.take k).filter (isP front)).map .string)) ∧ Hid (Below w1.heap.size w1 wr)) (fun _ iv _ => l.length - (intOf iv).toNat)
  case atStart => exact ⟨0, rfl, Nat.zero_le _, Lib.hid ⟨rfl, Or.inl ⟨rfl, rfl⟩⟩, Lib.hid (Below.refl _ _)⟩
  case round =>
    obtain ⟨k, rfl, hk, HO, HB⟩ := hrel
    by_cases hlt : k < l.length
    · obtain ⟨g, o, rfl, hg, hcc⟩ := HST.out (by omega)
      have cs := (HB.out.cell (p := ⟨g, o + k, none⟩) hg).trans (hcc k _ (List.getElem?_eq_getElem hlt))
      have hsz := HNM.out _ (List.getElem_mem hlt)
      have HF := Lib.hid (filter_succ (isP front) l hlt)
      have hfl := filter_le (isP front) l k
      clear hcc
      have HI := Lib.hid fun W => pis_any front l[k] W (by omega)
      generalize l[k] = s at *
      cases hp : isP front s with
      | false =>
        rw [hp] at HI
        have HF2 := Lib.hid (show (l.take (k + 1)).filter (isP front) = (l.take k).filter (isP front) by rw [HF.out, hp]; simp)
        clear hp HF
        go_wp2_with fail
        refine (HI.out _).mono ?_
        rintro e w2 ⟨rfl, hb2⟩
        have HO2 := Lib.hid (ownsRow_below (HO.out) hb2)
        have HB2 := Lib.hid (HB.out.trans (hb2.mono HB.out.size))
        clear hb2 HI
        go_wp2
        go_roundw
        case rel => exact ⟨k + 1, by go_num, by omega, by rw [HF2.out]; exact HO2, HB2⟩
        case measure => simp [intOf]; omega
      | true =>
        rw [hp] at HI
        have HF2 := Lib.hid (show (l.take (k + 1)).filter (isP front) = (l.take k).filter (isP front) ++ [s] by rw [HF.out, hp]; simp)
        clear hp HF
        generalize (l.take k).filter (isP front) = xs at *
        go_wp2_with fail
        refine (HI.out _).mono ?_
        rintro e w2 ⟨rfl, hb2⟩
        have hown := ownsRow_below (HO.out) hb2
        have HB2 := Lib.hid (HB.out.trans (hb2.mono HB.out.size))
        have hz2 := HB2.out.size
        clear hb2 HI
        go_wp2_with (at_builtin; refine wpList_app1 rfl _ _ 30 rfl w1.heap.size 9 Tryz.underlying30 infoS rfl (by decide) _ _ _ rfl hown _ rfl rfl (oneCell_string _) ?_ ?_ ?_ ?_; omega; omega; omega; intro g1 cap1 w3 hown' hgr hbw _)
        have HB3 := Lib.hid (HB2.out.trans hbw)
        have HO3 := Lib.hid (show w3.ownsRow w1.heap.size 9 1 (.slice (some ⟨g1, 0, none⟩) (xs.length + 1) cap1) (xs ++ [s]).length ((xs ++ [s]).map .string) from by
          rw [List.length_append, List.map_append]; exact hown')
        clear hown' hgr hbw hown
        go_wp2
        go_roundw
        case rel => exact ⟨k + 1, by go_num, by omega, by rw [HF2.out]; exact HO3, HB3⟩
        case measure => simp [intOf]; omega
    · obtain rfl : k = l.length := by omega
      have hown := HO.out
      rw [List.take_length, ← HD.out] at hown
      have HO2 := Lib.hid (ownsRow_base9 hown HB1.out.size)
      have HB2 := Lib.hid (HB1.out.trans (HB.out.mono HB1.out.size))
      clear hown
      go_wp2
      go_ret2
      exact ⟨_, rfl, HO2.out, HB2.out⟩
end Go.Proofs.YtpeepdkeicgkiaaGreatDoor
