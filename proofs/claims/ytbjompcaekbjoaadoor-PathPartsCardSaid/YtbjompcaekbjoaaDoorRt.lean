/- The order of paths is one; what is in a folder stands just behind it. -/
import Derived.Test.YtbjompcaekbjoaaDoorRs
namespace Go.Proofs.YtbjompcaekbjoaaDoor
open Go.RowKit

theorem bl_irrefl : ∀ x : List UInt8, Op.bytesLess x x = false
  | [] => rfl
  | a :: x => by simp [Op.bytesLess, bl_irrefl x]
theorem bl_trans : ∀ x y z : List UInt8, Op.bytesLess x y = true → Op.bytesLess y z = true → Op.bytesLess x z = true
  | _, [], _, h, _ => by simp [Op.bytesLess] at h
  | _, _ :: _, [], _, h => by simp [Op.bytesLess] at h
  | [], _ :: _, _ :: _, _, _ => rfl
  | a :: x, b :: y, c :: z, h1, h2 => by
    simp only [Op.bytesLess, Bool.or_eq_true, decide_eq_true_eq, Bool.and_eq_true, beq_iff_eq] at h1 h2 ⊢
    rcases h1 with h1 | ⟨rfl, h1⟩
    · rcases h2 with h2 | ⟨rfl, h2⟩
      · exact Or.inl (UInt8.lt_trans h1 h2)
      · exact Or.inl h1
    · rcases h2 with h2 | ⟨rfl, h2⟩
      · exact Or.inl h2
      · exact Or.inr ⟨rfl, bl_trans x y z h1 h2⟩
theorem bl_tri : ∀ x y : List UInt8, Op.bytesLess x y = true ∨ x = y ∨ Op.bytesLess y x = true
  | [], [] => Or.inr (Or.inl rfl)
  | [], _ :: _ => Or.inl rfl
  | _ :: _, [] => Or.inr (Or.inr rfl)
  | a :: x, b :: y => by
    simp only [Op.bytesLess, Bool.or_eq_true, decide_eq_true_eq, Bool.and_eq_true, beq_iff_eq, List.cons.injEq]
    by_cases h : a < b
    · exact Or.inl (Or.inl h)
    · by_cases h2 : b < a
      · exact Or.inr (Or.inr (Or.inl h2))
      · have e : a = b := by
          apply UInt8.toNat_inj.1
          rw [UInt8.lt_iff_toNat_lt] at h h2
          omega
        subst e
        rcases bl_tri x y with h3 | h3 | h3
        · exact Or.inl (Or.inr ⟨rfl, h3⟩)
        · exact Or.inr (Or.inl ⟨rfl, h3⟩)
        · exact Or.inr (Or.inr (Or.inr ⟨rfl, h3⟩))
theorem ba_eq {a b : ByteArray} (h : a.toList = b.toList) : a = b := by
  rw [ba_toList, ba_toList] at h
  exact ByteArray.ext (Array.toList_inj.1 h)
theorem sCmp_less {a b : ByteArray} : sCmp a b = -1 ↔ Op.bytesLess a.toList b.toList = true := by
  unfold sCmp lessS
  split
  · next h => simp [h]
  · next h => split <;> simp [h]
theorem sCmp_zero {a b : ByteArray} : sCmp a b = 0 ↔ a = b := by
  unfold sCmp lessS
  split
  · next h =>
    refine ⟨fun e => by simp at e, fun e => ?_⟩
    rw [e, bl_irrefl] at h
    simp at h
  · split
    · next h => exact ⟨fun _ => ba_eq h, fun _ => rfl⟩
    · next h => exact ⟨fun e => by simp at e, fun e => absurd (by rw [e]) h⟩
theorem sCmp_turn (a b : ByteArray) : sCmp b a = - sCmp a b := by
  rcases bl_tri a.toList b.toList with h | h | h
  · have h1 := sCmp_less.2 h
    have h2 : ¬ sCmp b a = -1 := fun e => by
      have := bl_trans _ _ _ h (sCmp_less.1 e)
      rw [bl_irrefl] at this; simp at this
    have h3 : ¬ sCmp b a = 0 := fun e => by
      rw [sCmp_zero.1 e, bl_irrefl] at h; simp at h
    rcases sCmp_range b a with e | e | e <;> omega
  · rw [ba_eq h, sCmp_zero.2 rfl]; rfl
  · have h1 := sCmp_less.2 h
    have h2 : ¬ sCmp a b = -1 := fun e => by
      have := bl_trans _ _ _ h (sCmp_less.1 e)
      rw [bl_irrefl] at this; simp at this
    have h3 : ¬ sCmp a b = 0 := fun e => by
      rw [sCmp_zero.1 e, bl_irrefl] at h; simp at h
    rcases sCmp_range a b with e | e | e <;> omega
theorem sCmp_trans {a b c : ByteArray} (h1 : sCmp a b = -1) (h2 : sCmp b c = -1) : sCmp a c = -1 := sCmp_less.2 (bl_trans _ _ _ (sCmp_less.1 h1) (sCmp_less.1 h2))

theorem cmpL_range : ∀ x y : List ByteArray, cmpL x y = -1 ∨ cmpL x y = 0 ∨ cmpL x y = 1
  | [], [] => Or.inr (Or.inl rfl)
  | [], _ :: _ => Or.inl rfl
  | _ :: _, [] => Or.inr (Or.inr rfl)
  | a :: x, b :: y => by
    simp only [cmpL]
    split
    · exact cmpL_range x y
    · exact sCmp_range a b
theorem cmpL_zero : ∀ x y : List ByteArray, cmpL x y = 0 ↔ x = y
  | [], [] => by simp [cmpL]
  | [], _ :: _ => by simp [cmpL]
  | _ :: _, [] => by simp [cmpL]
  | a :: x, b :: y => by
    simp only [cmpL, List.cons.injEq]
    split
    · next h => rw [cmpL_zero x y, sCmp_zero.1 h]; simp
    · next h => exact ⟨fun e => absurd e h, fun e => absurd (sCmp_zero.2 e.1) h⟩
theorem cmpL_turn : ∀ x y : List ByteArray, cmpL y x = - cmpL x y
  | [], [] => rfl
  | [], _ :: _ => rfl
  | _ :: _, [] => rfl
  | a :: x, b :: y => by
    simp only [cmpL]
    have := sCmp_turn a b
    have := cmpL_turn x y
    split <;> split <;> omega
theorem cmpL_trans : ∀ x y z : List ByteArray, cmpL x y = -1 → cmpL y z = -1 → cmpL x z = -1
  | [], [], _, h, _ => by simp [cmpL] at h
  | _ :: _, [], _, h, _ => by simp [cmpL] at h
  | _, _ :: _, [], _, h => by simp [cmpL] at h
  | [], _ :: _, _ :: _, _, _ => rfl
  | a :: x, b :: y, c :: z, h1, h2 => by
    simp only [cmpL] at h1 h2 ⊢
    split at h1
    · next e1 =>
      have := sCmp_zero.1 e1
      subst this
      split at h2
      · next e2 => rw [if_pos e2]; exact cmpL_trans x y z h1 h2
      · next e2 => rw [if_neg e2]; exact h2
    · next e1 =>
      split at h2
      · next e2 =>
        have := sCmp_zero.1 e2
        subst this
        rw [if_neg e1]; exact h1
      · next e2 =>
        have e3 := sCmp_trans h1 h2
        rw [if_neg (by omega)]; exact e3
theorem cmpL_min (x y z : List ByteArray) (h1 : cmpL x y ≤ 0) (h2 : cmpL y z ≤ 0) : cmpL x z = min (cmpL x y) (cmpL y z) := by
  rcases cmpL_range x y with e1 | e1 | e1
  · rcases cmpL_range y z with e2 | e2 | e2
    · rw [cmpL_trans x y z e1 e2, e1, e2]; rfl
    · rw [← (cmpL_zero y z).1 e2, e1, (cmpL_zero y y).2 rfl]; rfl
    · omega
  · rw [(cmpL_zero x y).1 e1, (cmpL_zero y y).2 rfl]; omega
  · omega
theorem cmpL_in (x : List ByteArray) : ∀ (z : List ByteArray), z ≠ [] → cmpL x (x ++ z) = -1 := by
  induction x with
  | nil => intro z hz; cases z with
    | nil => exact absurd rfl hz
    | cons a t => rfl
  | cons a x ih => intro z hz; simp only [cmpL, List.cons_append]; rw [if_pos (sCmp_zero.2 rfl)]; exact ih z hz
theorem cmpL_under : ∀ (x y : List ByteArray), cmpL x y = -1 → (∃ t, t ≠ [] ∧ y = x ++ t) ∨ ∀ z, cmpL (x ++ z) y = -1
  | [], [], h => by simp [cmpL] at h
  | [], b :: y, _ => Or.inl ⟨b :: y, by simp, rfl⟩
  | _ :: _, [], h => by simp [cmpL] at h
  | a :: x, b :: y, h => by
    simp only [cmpL] at h
    split at h
    · next e =>
      have := sCmp_zero.1 e
      subst this
      rcases cmpL_under x y h with ⟨t, ht, e2⟩ | h2
      · exact Or.inl ⟨t, ht, by rw [e2]; rfl⟩
      · exact Or.inr fun z => by simp only [cmpL, List.cons_append]; rw [if_pos e]; exact h2 z
    · next e => exact Or.inr fun z => by simp only [cmpL, List.cons_append]; rw [if_neg e]; exact h

/-- the parts joined again -/
def joinL : List (List UInt8) → List UInt8
  | [] => []
  | [x] => x
  | x :: y :: t => x ++ 47 :: joinL (y :: t)
theorem joinL_cons (x : List UInt8) {t : List (List UInt8)} (h : t ≠ []) : joinL (x :: t) = x ++ 47 :: joinL t := by
  cases t with
  | nil => exact absurd rfl h
  | cons a r => rfl
theorem join_split : ∀ l : List UInt8, joinL (splitL l) = l
  | [] => rfl
  | c :: r => by
    have ih := join_split r
    have hne := splitL_ne r
    by_cases h : c = 47
    · rw [h, splitL_slash, joinL_cons _ hne, ih]; rfl
    · rw [splitL_other h]
      cases hs : splitL r with
      | nil => exact absurd hs hne
      | cons x t =>
        rw [hs] at ih
        cases t with
        | nil => simp only [joinL] at ih; simp [headApp, joinL, ih]
        | cons y t => rw [joinL_cons _ (by simp)] at ih; simp only [headApp]; rw [joinL_cons _ (by simp), ← ih]; rfl
theorem joinL_app : ∀ (x t : List (List UInt8)), x ≠ [] → t ≠ [] → joinL (x ++ t) = joinL x ++ 47 :: joinL t
  | [], _, h, _ => absurd rfl h
  | [a], t, _, ht => joinL_cons a ht
  | a :: b :: x, t, _, ht => by
    rw [List.cons_append, joinL_cons _ (by simp), joinL_cons _ (by simp), joinL_app (b :: x) t (by simp) ht]
    simp
theorem strB_inj {x y : List UInt8} (h : strB x = strB y) : x = y := by
  have := congrArg (fun b : ByteArray => b.data.toList) h
  simpa [strB] using this
theorem mapB_inj {x y : List (List UInt8)} (h : x.map strB = y.map strB) : x = y := (List.map_inj_right fun _ _ h => strB_inj h).1 h
theorem partsP_inj {a b : ByteArray} (h : partsP a = partsP b) : a = b := by
  have h2 : splitL a.data.toList = splitL b.data.toList := mapB_inj h
  have := congrArg joinL h2
  rw [join_split, join_split] at this
  exact ByteArray.ext (Array.toList_inj.1 this)
/-- a folder, a slash, a name -/
def inP (a n : ByteArray) : ByteArray := a ++ ⟨#[47]⟩ ++ n
theorem inP_list (a n : ByteArray) : (inP a n).data.toList = a.data.toList ++ 47 :: n.data.toList := by
  simp [inP, ByteArray.data_append]
theorem inP_size (a n : ByteArray) : (inP a n).size = a.size + 1 + n.size := by
  unfold inP
  rw [ByteArray.size_append, ByteArray.size_append]; rfl
theorem partsP_in (a n : ByteArray) : partsP (inP a n) = partsP a ++ partsP n := by
  unfold partsP partsR
  rw [inP_list, splitL_append, List.map_append]
/-- what begins with a folder and a slash -/
theorem under_text (a b : ByteArray) (h : ∃ t, t ≠ [] ∧ partsP b = partsP a ++ t) : a.size < b.size ∧ b.extract 0 (a.size + 1) = a ++ ⟨#[47]⟩ := by
  obtain ⟨t, ht, he⟩ := h
  have hs : (splitL b.data.toList).map strB = (splitL a.data.toList).map strB ++ t := he
  obtain ⟨l1, l2, e0, e1, e2⟩ := List.map_eq_append_iff.1 hs
  have e3 := mapB_inj e1
  have ht2 : l2 ≠ [] := fun e => ht (by rw [← e2, e]; rfl)
  have e4 := congrArg joinL e0
  rw [join_split, e3, joinL_app _ _ (splitL_ne _) ht2, join_split] at e4
  have hz : b.size = a.size + 1 + (joinL l2).length := by
    have := congrArg List.length e4
    simp at this
    have h1 : b.data.size = b.size := rfl
    have h2 : a.data.size = a.size := rfl
    omega
  refine ⟨by omega, ?_⟩
  apply ByteArray.ext
  apply Array.toList_inj.1
  rw [Lib.extract_from_zero, e4]
  have h2 : a.data.toList.length = a.size := by simp
  rw [show a.size + 1 = a.data.toList.length + 1 by omega, List.take_length_add_append]
  simp [ByteArray.data_append]
theorem inP_empty_name (a : ByteArray) : partsP a ≠ [] := fun e => by have := partsP_ne a; rw [e] at this; simp at this
end Go.Proofs.YtbjompcaekbjoaaDoor
