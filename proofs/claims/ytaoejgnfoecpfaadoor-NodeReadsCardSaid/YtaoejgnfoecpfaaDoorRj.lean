/- Comparing part by part: slices.Compare. -/
import Derived.Test.YtaoejgnfoecpfaaDoorRf
namespace Go.Proofs.YtaoejgnfoecpfaaDoor
open Go.RowKit

/-- does a stand before b? -/
def lessS (a b : ByteArray) : Bool := Op.bytesLess a.toList b.toList
def sCmp (a b : ByteArray) : Int := if lessS a b = true then -1 else if a.toList = b.toList then 0 else 1
def cmpL : List ByteArray → List ByteArray → Int
  | [], [] => 0
  | [], _ :: _ => -1
  | _ :: _, [] => 1
  | x :: xs, y :: ys => if sCmp x y = 0 then cmpL xs ys else sCmp x y
/-- texts in a row of cells -/
def StrRow (W : World) (b : Nat) (xs : List ByteArray) : Prop := ∀ (j : Nat) (u : ByteArray), xs[j]? = some u → W.cell? ⟨b, j, none⟩ = some (.string u)

set_option maxRecDepth 100000 in
set_option maxHeartbeats 400000 in
theorem nan_any (a : ByteArray) (w : World) : Calls Tryd.prog 147 #[.string a] w fun e w' => e = .returned (.bool false) ∧ w = w' := by
  go_enter Tryd.func147, Tryd.ntmps147
  go_wp2
  go_ret
  exact ⟨ret_bool (by simp), rfl⟩
set_option maxRecDepth 100000 in
set_option maxHeartbeats 400000 in
theorem cmp_any (a b : ByteArray) (w : World) : Calls Tryd.prog 127 #[.string a, .string b] w fun e w' => e = .returned (.int .i64 (sCmp a b)) ∧ w = w' := by
  go_enter Tryd.func127, Tryd.ntmps127
  go_wp2_with fail
  refine (nan_any a w).mono ?_
  rintro e w' ⟨rfl, rfl⟩
  go_wp2_with fail
  refine (nan_any b _).mono ?_
  rintro e w' ⟨rfl, rfl⟩
  cases h1 : Op.bytesLess a.toList b.toList with
  | true =>
    have HS := Lib.hid (show sCmp a b = -1 by unfold sCmp lessS; rw [if_pos h1])
    go_wp2
    go_ret
    exact ⟨ret_int HS.out.symm, rfl⟩
  | false =>
    cases h2 : a.toList == b.toList with
    | true =>
      have HS := Lib.hid (show sCmp a b = 0 by unfold sCmp lessS; rw [if_neg (by rw [h1]; simp), if_pos (eq_of_beq h2)])
      go_wp2
      go_ret
      exact ⟨ret_int HS.out.symm, rfl⟩
    | false =>
      have HS := Lib.hid (show sCmp a b = 1 by unfold sCmp lessS; rw [if_neg (by rw [h1]; simp), if_neg (fun e => by rw [e] at h2; simp at h2)])
      go_wp2
      go_ret
      exact ⟨ret_int HS.out.symm, rfl⟩
theorem sCmp_range (a b : ByteArray) : sCmp a b = -1 ∨ sCmp a b = 0 ∨ sCmp a b = 1 := by
  unfold sCmp
  split
  · exact Or.inl rfl
  · split
    · exact Or.inr (Or.inl rfl)
    · exact Or.inr (Or.inr rfl)
theorem drop_some {α : Type} {l : List α} {k : Nat} (h : k < l.length) : l.drop k = l[k] :: l.drop (k + 1) := List.drop_eq_getElem_cons h

set_option maxRecDepth 100000 in
set_option maxHeartbeats 1600000 in
theorem slcmp_any (xs ys : List ByteArray) (bx by' cx cy : Nat) (w : World) (hx : StrRow w bx xs) (hy : StrRow w by' ys) (hlx : xs.length ≤ 1099511627776) (_hly : ys.length ≤ 1099511627776) :
    Calls Tryd.prog 115 #[.slice (some ⟨bx, 0, none⟩) xs.length cx, .slice (some ⟨by', 0, none⟩) ys.length cy] w fun e w' => e = .returned (.int .i64 (cmpL xs ys)) ∧ w = w' := by
  have HX := Lib.hid hx
  have HY := Lib.hid hy
  clear hx hy
  go_enter Tryd.func115, Tryd.ntmps115
  go_wp2
  go_loop [11] (fun t => ∃ k : Nat, t = .int .i64 (k : Nat) ∧ k ≤ xs.length ∧ k ≤ ys.length ∧ cmpL (xs.drop k) (ys.drop k) = cmpL xs ys) (fun t => xs.length - (intOf t).toNat)
  case atStart => exact ⟨0, rfl, Nat.zero_le _, Nat.zero_le _, rfl⟩
  case round =>
    obtain ⟨k, rfl, hkx, hky, hn⟩ := hrel
    have HN := Lib.hid hn
    clear hn
    by_cases h1 : k < xs.length
    · have hcx := HX.out k xs[k] (List.getElem?_eq_getElem h1)
      have HDX := Lib.hid (drop_some h1)
      generalize xs[k] = x at *
      by_cases h2 : k < ys.length
      · have hcy := HY.out k ys[k] (List.getElem?_eq_getElem h2)
        have HDY := Lib.hid (drop_some h2)
        generalize ys[k] = y at *
        have HC := Lib.hid (cmp_any x y w)
        have hr := sCmp_range x y
        have HD := Lib.hid (show cmpL (x :: xs.drop (k + 1)) (y :: ys.drop (k + 1)) = if sCmp x y = 0 then cmpL (xs.drop (k + 1)) (ys.drop (k + 1)) else sCmp x y from rfl)
        generalize sCmp x y = q at *
        go_wp2_with fail
        refine HC.out.mono ?_
        rintro e w4 ⟨rfl, rfl⟩
        by_cases hq : q = 0
        · have HQ := Lib.hid hq
          go_wp2
          go_round
          case rel => exact ⟨k + 1, by go_num, by omega, by omega, by rw [← HN.out, HDX.out, HDY.out, HD.out, if_pos HQ.out]⟩
          case measure => simp [intOf]; omega
        · have HQ := Lib.hid hq
          have hq2 : (q != 0) = true := by simp; exact hq
          clear hq hr
          go_wp2
          go_ret
          exact ⟨ret_int (by rw [← HN.out, HDX.out, HDY.out, HD.out, if_neg HQ.out]), rfl⟩
      · have HF := Lib.hid (show ys.drop k = [] from List.drop_of_length_le (by omega))
        go_wp2
        go_ret
        exact ⟨ret_int (by rw [← HN.out, HDX.out, HF.out]; rfl), rfl⟩
    · have HF := Lib.hid (show xs.drop k = [] from List.drop_of_length_le (by omega))
      have hke : k = xs.length := by omega
      by_cases h2 : k < ys.length
      · have HDY := Lib.hid (drop_some h2)
        generalize ys[k] = y at *
        go_wp2
        go_ret
        exact ⟨ret_int (by rw [← HN.out, HF.out, HDY.out]; rfl), rfl⟩
      · have HG := Lib.hid (show ys.drop k = [] from List.drop_of_length_le (by omega))
        go_wp2
        go_ret
        exact ⟨ret_int (by rw [← HN.out, HF.out, HG.out]; rfl), rfl⟩
end Go.Proofs.YtaoejgnfoecpfaaDoor
