/- The document's Compare. -/
import Derived.Test.YtaoejgnfoecpfaaDoorJw5
namespace Go.Proofs.YtaoejgnfoecpfaaDoor
set_option linter.unusedVariables false
set_option linter.unusedSimpArgs false
set_option linter.unusedSectionVars false
open Go.RowKit

theorem own_below {B : Nat} {e : TypeId} {k : Nat} {v : Value} {n : Nat} {xs : List Value} {w w' : World} (h : w.ownsRow B e k v n xs) (hb : Below w.heap.size w w') : w'.ownsRow B e k v n xs :=
  h.kept (row := none) ⟨hb.os, hb.tape, hb.output, hb.size, fun j hj _ => hb.block j hj⟩ (by cases hv : v.ownBlock <;> simp)
theorem parts_row {w : World} {B g n cap : Nat} {s : ByteArray} (h : w.ownsRow B 9 1 (.slice (some ⟨g, 0, none⟩) n cap) n (partsV (partsR s))) : StrRow w g (partsP s) ∧ n = (partsP s).length := by
  have hn : n = (partsP s).length := by
    have := h.1
    simp [partsV] at this
    simp [partsP, this]
  refine ⟨fun j u hj => ?_, hn⟩
  have hjl : j < (partsP s).length := (List.getElem?_eq_some_iff.1 hj).1
  rw [h.cellAt j (by omega)]
  unfold partsP at hj
  simp only [partsV, List.getElem?_map] at hj ⊢
  cases hq : (partsR s)[j]? with
  | none => rw [hq] at hj; simp at hj
  | some x =>
    rw [hq] at hj
    simp at hj
    simp [hj]
theorem partsP_len (s : ByteArray) : (partsP s).length ≤ s.size + 2 := by
  have h1 := (split_parts s.size s (Nat.le_refl _)).2
  have : Lib.countB s slash ≤ s.size + 1 := by unfold Lib.countB; exact Lib.count_le _ _
  omega

set_option maxRecDepth 100000 in
set_option maxHeartbeats 1600000 in
theorem refcompare_any (a b : ByteArray) (w : World) (ha : a.size ≤ 1000000) (hb : b.size ≤ 1000000) :
    Calls Tryd.prog 85 #[.string a, .string b] w fun e w' => e = .returned (.int .i64 (cmpL (partsP a) (partsP b))) ∧ Below w.heap.size w w' := by
  have hla := partsP_len a
  have hlb := partsP_len b
  have H1 := Lib.hid (parts_any a w ha)
  have H2 := Lib.hid fun W => parts_any b W hb
  go_enter Tryd.func85, Tryd.ntmps85
  go_wp2_with fail
  refine H1.out.mono ?_
  rintro e w1 ⟨ga, ca, rfl, ho1, hb1⟩
  go_wp2_with fail
  refine (H2.out w1).mono ?_
  rintro e w2 ⟨gb, cb, rfl, ho2, hb2⟩
  obtain ⟨hr1, hn1⟩ := parts_row (own_below ho1 hb2)
  obtain ⟨hr2, hn2⟩ := parts_row ho2
  have HBL := Lib.hid (hb1.trans (hb2.mono hb1.size))
  have HX := Lib.hid hr1
  have HY := Lib.hid hr2
  rw [hn1, hn2]
  clear hb1 hb2 ho1 ho2 hr1 hr2 hn1 hn2 H1 H2
  generalize hxs : partsP a = xs at *
  generalize hys : partsP b = ys at *
  have HXS := Lib.hid hxs
  have HYS := Lib.hid hys
  clear hxs hys
  go_wp2
  go_loopw [14] (fun t wr => ∃ k : Nat, t = .int .i64 (k : Nat) ∧ k ≤ xs.length ∧ k ≤ ys.length ∧ cmpL (xs.drop k) (ys.drop k) = cmpL xs ys ∧ StrRow wr ga xs ∧ StrRow wr gb ys ∧ Below w.heap.size w wr) (fun t _ => xs.length - (intOf t).toNat)
  case atStart => exact ⟨0, rfl, Nat.zero_le _, Nat.zero_le _, rfl, HX.out, HY.out, HBL.out⟩
  case round =>
    obtain ⟨k, rfl, hkx, hky, hn, hx, hy, hbl⟩ := hrel
    have HN := Lib.hid hn
    have HX := Lib.hid hx
    have HY := Lib.hid hy
    have HB := Lib.hid hbl
    have hk0 : (0 : Int) ≤ (k : Int) := by omega
    have hk1 : ((k : Int)).toNat = k := by omega
    clear hn hx hy hbl
    by_cases h1 : k < xs.length
    · have hcx := HX.out k xs[k] (List.getElem?_eq_getElem h1)
      have HDX := Lib.hid (drop_some h1)
      generalize xs[k] = x at *
      by_cases h2 : k < ys.length
      · have hcy := HY.out k ys[k] (List.getElem?_eq_getElem h2)
        have HDY := Lib.hid (drop_some h2)
        generalize ys[k] = y at *
        have hge : decide ((ys.length : Int) ≤ (k : Int)) = false := by simp; omega
        have hge2 : ¬ (ys.length : Int) ≤ (k : Int) := by omega
        have HD := Lib.hid (show cmpL (x :: xs.drop (k + 1)) (y :: ys.drop (k + 1)) = if sCmp x y = 0 then cmpL (xs.drop (k + 1)) (ys.drop (k + 1)) else sCmp x y from rfl)
        cases hl : Op.bytesLess x.toList y.toList with
        | true =>
          have HS := Lib.hid (show sCmp x y = -1 by unfold sCmp lessS; rw [if_pos hl])
          go_upto_region 5 with fail
          go_region
          go_upto_region 7 with fail
          go_region
          go_wp2
          go_ret
          exact ⟨ret_int (by rw [HXS.out, HYS.out, ← HN.out, HDX.out, HDY.out, HD.out, HS.out]; rfl), HB.out.drew.drew⟩
        | false =>
          cases hq : x.toList == y.toList with
          | true =>
            have HS := Lib.hid (show sCmp x y = 0 by unfold sCmp lessS; rw [if_neg (by rw [hl]; simp), if_pos (eq_of_beq hq)])
            go_upto_region 5 with fail
            go_region
            go_upto_region 7 with fail
            go_region
            go_wp2
            go_roundw
            case rel => exact ⟨k + 1, by go_num, by omega, by omega, by rw [← HN.out, HDX.out, HDY.out, HD.out, if_pos HS.out], HX.out, HY.out, HB.out.drew.drew⟩
            case measure => simp [intOf]; omega
          | false =>
            have HS := Lib.hid (show sCmp x y = 1 by unfold sCmp lessS; rw [if_neg (by rw [hl]; simp), if_neg (fun e => by rw [e] at hq; simp at hq)])
            go_upto_region 5 with fail
            go_region
            go_wp2
            go_ret
            exact ⟨ret_int (by rw [HXS.out, HYS.out, ← HN.out, HDX.out, HDY.out, HD.out, HS.out]; rfl), HB.out.drew⟩
      · have HF := Lib.hid (show ys.drop k = [] from List.drop_of_length_le (by omega))
        have hge : decide ((ys.length : Int) ≤ (k : Int)) = true := by simp; omega
        have hge2 : (ys.length : Int) ≤ (k : Int) := by omega
        go_upto_region 5 with fail
        go_region
        go_wp2
        go_ret
        exact ⟨ret_int (by rw [HXS.out, HYS.out, ← HN.out, HDX.out, HF.out]; rfl), HB.out.drew⟩
    · have HF := Lib.hid (show xs.drop k = [] from List.drop_of_length_le (by omega))
      have hke : k = xs.length := by omega
      by_cases h2 : k < ys.length
      · have HDY := Lib.hid (drop_some h2)
        generalize ys[k] = y at *
        go_wp2
        go_ret
        exact ⟨ret_int (by rw [HXS.out, HYS.out, ← HN.out, HF.out, HDY.out]; rfl), HB.out⟩
      · have HG := Lib.hid (show ys.drop k = [] from List.drop_of_length_le (by omega))
        go_wp2
        go_ret
        exact ⟨ret_int (by rw [HXS.out, HYS.out, ← HN.out, HF.out, HG.out]; rfl), HB.out⟩
end Go.Proofs.YtaoejgnfoecpfaaDoor
