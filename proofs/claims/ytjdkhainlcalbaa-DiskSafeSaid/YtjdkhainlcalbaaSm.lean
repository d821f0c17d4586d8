/- The laws' own Few and Same; rows of texts. -/
import Derived.Test.YtjdkhainlcalbaaWf
namespace Go.Proofs.Ytjdkhainlcalbaa
open Go.RowKit Go.Maps

/-- cut to at most n bytes -/
def few (s : ByteArray) (n : Nat) : ByteArray := if s.size ≤ n then s else s.extract 0 n
theorem few_size (s : ByteArray) (n : Nat) : (few s n).size ≤ n := by
  unfold few
  split
  · assumption
  · rw [ByteArray.size_extract]; omega
set_option maxHeartbeats 400000 in
set_option maxRecDepth 100000 in
theorem few_any (s : ByteArray) (n : Nat) (w : World) (_hm : s.size ≤ 9223372036854775807) :
    Calls Try.prog 35 #[.string s, .int .i64 n] w fun e w' => e = .returned (.string (few s n)) ∧ w = w' := by
  by_cases h : s.size ≤ n
  · have HF : Hid (few s n = s) := by unfold few; exact if_pos h
    go_enter Try.func35, Try.ntmps35
    go_wp2
    go_ret
    exact ⟨ret_str HF.out.symm, rfl⟩
  · have HF : Hid (few s n = s.extract 0 n) := by unfold few; exact if_neg h
    go_enter Try.func35, Try.ntmps35
    go_wp2
    go_ret
    exact ⟨ret_str HF.out.symm, rfl⟩

/-- a row of strings, to be read -/
def RowStr (w : World) (v : Value) (l : List ByteArray) : Prop :=
  (v = .slice none 0 0 ∧ l = []) ∨ ∃ g cap, v = .slice (some ⟨g, 0, none⟩) l.length cap ∧ ∀ j (h : j < l.length), w.cell? ⟨g, j, none⟩ = some (.string l[j])
theorem RowStr.of {w : World} {base : Nat} {v : Value} {l : List ByteArray} (h : w.ownsRow base 9 1 v l.length (l.map .string)) : RowStr w v l := by
  have h' := h
  obtain ⟨hl, hv | ⟨g, cap, cur, hv, _⟩⟩ := h
  · exact Or.inl ⟨hv.1, List.length_eq_zero_iff.1 hv.2⟩
  · refine Or.inr ⟨g, cap, hv, fun j hj => ?_⟩
    subst hv
    have := own_cell (j := j) (u := .string l[j]) h' (by simp [List.getElem?_eq_getElem hj])
    have hadd : (⟨g, 0, none⟩ : Addr).add j = ⟨g, j, none⟩ := by unfold Addr.add; split <;> simp_all
    rw [hadd] at this; exact this
theorem RowStr.len {w : World} {v : Value} {l : List ByteArray} (h : RowStr w v l) : ∃ a c, v = .slice a l.length c := by
  rcases h with ⟨rfl, rfl⟩ | ⟨g, c, rfl, _⟩
  · exact ⟨_, _, rfl⟩
  · exact ⟨_, _, rfl⟩

/-- 0: they are alike -/
def sameI (l1 l2 : List ByteArray) : Int := if l1 = l2 then 0 else -1
theorem toList_ne {x y : ByteArray} (h : ¬ x = y) : (!x.toList == y.toList) = true := by
  have : ¬ x.toList = y.toList := fun e => h (by
    rw [ba_toList, ba_toList] at e
    exact ByteArray.ext (Array.toList_inj.1 e))
  simp [this]

set_option maxHeartbeats 400000 in
set_option maxRecDepth 100000 in
theorem same_any (v1 v2 : Value) (l1 l2 : List ByteArray) (w : World) (h1 : RowStr w v1 l1) (h2 : RowStr w v2 l2) (hl1 : l1.length ≤ 1000000) (_hl2 : l2.length ≤ 1000000) :
    Calls Try.prog 58 #[v1, v2] w fun e w' => e = .returned (.int .i64 (sameI l1 l2)) ∧ ∃ n, w' = w.drewN n := by
  obtain ⟨a1, c1, e1⟩ := h1.len
  obtain ⟨a2, c2, e2⟩ := h2.len
  by_cases hlen : l1.length = l2.length
  · have HX : Hid (∀ j (hj : j < l1.length) (hj2 : j < l2.length), ∃ g1 g2, a1 = some ⟨g1, 0, none⟩ ∧ a2 = some ⟨g2, 0, none⟩ ∧ w.cell? ⟨g1, j, none⟩ = some (.string l1[j]) ∧ w.cell? ⟨g2, j, none⟩ = some (.string l2[j])) := by
      intro j hj hj2
      rcases h1 with ⟨_, hn⟩ | ⟨g1, d1, r1, s1⟩
      · rw [hn] at hj; simp at hj
      · rcases h2 with ⟨_, hn⟩ | ⟨g2, d2, r2, s2⟩
        · rw [hn] at hj2; simp at hj2
        · rw [e1] at r1; rw [e2] at r2
          injection r1 with r1 _ _; injection r2 with r2 _ _
          exact ⟨g1, g2, r1, r2, s1 j hj, s2 j hj2⟩
    subst e1 e2
    clear h1 h2
    go_enter Try.func58, Try.ntmps58
    go_wp2
    go_loopw [13] (fun i wr => ∃ k : Nat, k ≤ l1.length ∧ i = .int .i64 k ∧ l1.take k = l2.take k ∧ ∃ n, wr = w.drewN n) (fun i _ => l1.length - (intOf i).toNat)
    case atStart => exact ⟨0, Nat.zero_le _, rfl, rfl, 0, rfl⟩
    case round =>
      obtain ⟨k, hk, rfl, htk, nd, rfl⟩ := hrel
      have HT := Lib.hid htk
      clear htk
      by_cases hlt : k < l1.length
      · obtain ⟨g1, g2, rfl, rfl, q1, q2⟩ := HX.out k hlt (by omega)
        have q1 : (w.drewN nd).cell? ⟨g1, k, none⟩ = some (.string l1[k]) := q1
        have q2 : (w.drewN nd).cell? ⟨g2, k, none⟩ = some (.string (l2[k]'(by omega))) := q2
        have hlt2 : k < l2.length := by omega
        have HY : Hid (l1.take (k + 1) = l1.take k ++ [l1[k]] ∧ l2.take (k + 1) = l2.take k ++ [l2[k]]) := ⟨List.take_succ_eq_append_getElem hlt, List.take_succ_eq_append_getElem hlt2⟩
        have HG : Hid (∀ x y, l1[k]? = some x → l2[k]? = some y → x ≠ y → ¬ l1 = l2) := by
          intro x y hx hy hxy he
          rw [he, hy] at hx; injection hx with hx; exact hxy hx.symm
        have HG1 := Lib.hid (List.getElem?_eq_getElem hlt)
        have HG2 := Lib.hid (List.getElem?_eq_getElem hlt2)
        generalize l1[k] = x at *
        generalize l2[k] = y at *
        by_cases hxy : x = y
        · subst hxy
          go_wp2
          go_quiet (fail)
          go_wp2
          go_roundw
          case rel => exact ⟨k + 1, by omega, by go_num, by rw [HY.out.1, HY.out.2, HT.out], nd + nq, rfl⟩
          case measure => simp [intOf]; omega
        · have hxy2 := toList_ne hxy
          have HN := Lib.hid (HG.out x y HG1.out HG2.out hxy)
          go_wp2
          go_quiet (fail)
          go_wp2
          go_ret
          exact ⟨ret_int (by unfold sameI; rw [if_neg HN.out]), nd + nq, World.drewN_drewN ..⟩
      · obtain rfl : k = l1.length := by omega
        have HN := Lib.hid (show l1 = l2 by
          have := HT.out
          rw [List.take_of_length_le (Nat.le_refl _), List.take_of_length_le (by omega)] at this; exact this)
        go_wp2
        go_ret
        exact ⟨ret_int (by unfold sameI; rw [if_pos HN.out]), nd, rfl⟩
  · have HN := Lib.hid (show ¬ l1 = l2 from fun h => hlen (by rw [h]))
    subst e1 e2
    clear h1 h2
    go_enter Try.func58, Try.ntmps58
    go_wp2
    go_ret
    exact ⟨ret_int (by unfold sameI; rw [if_neg HN.out]), 0, rfl⟩
end Go.Proofs.Ytjdkhainlcalbaa
