/- A path is its parent and its base: plain laws. -/
import Derived.Test.YtbjompcaekbjoaaDoorRt
import Derived.Test.YtbjompcaekbjoaaDoorRu
namespace Go.Proofs.YtbjompcaekbjoaaDoor
open Go.RowKit

/-- how many slashes -/
def slashes (l : List UInt8) : Nat := l.count 47
theorem splitL_len : ∀ l : List UInt8, (splitL l).length = slashes l + 1
  | [] => rfl
  | c :: r => by
    have ih := splitL_len r
    by_cases h : c = 47
    · rw [h, splitL_slash, List.length_cons, ih]; simp [slashes]
    · rw [splitL_other h]
      have hne := splitL_ne r
      have e : slashes (c :: r) = slashes r := by unfold slashes; rw [List.count_cons_of_ne]; exact h
      rw [e]
      cases hs : splitL r with
      | nil => exact absurd hs hne
      | cons x t => rw [hs] at ih; simpa [headApp] using ih
theorem partsP_len2 (s : ByteArray) : (partsP s).length = slashes s.data.toList + 1 := by
  unfold partsP partsR
  rw [List.length_map, splitL_len]
theorem slashes_step (s : ByteArray) (k : Nat) (h : k < s.size) : slashes (s.data.toList.take (k + 1)) = slashes (s.data.toList.take k) + if s[k] = 47 then 1 else 0 := by
  have e : s.data.toList.take (k + 1) = s.data.toList.take k ++ [s[k]] := by
    rw [List.take_succ_eq_append_getElem (by simpa using h)]; rfl
  unfold slashes
  rw [e, List.count_append]
  congr 1
  by_cases h47 : s[k] = 47
  · rw [if_pos h47, h47]; rfl
  · rw [if_neg h47, List.count_singleton, if_neg (by simpa using h47)]
/-- a name holds no slash -/
theorem enc_high (d : Nat) (h : 128 ≤ d) : ∀ x ∈ Lib.encodeRune (d : Int), 128 ≤ x.toNat := by
  intro x hx
  unfold Lib.encodeRune at hx
  obtain ⟨z, hz, rfl⟩ := List.mem_map.1 hx
  have hb := Lib.encodeRuneZ_byte (d : Int) z hz
  have := u8n z hb.1 hb.2
  have h128 : 128 ≤ z := by
    unfold Lib.encodeRuneZ at hz
    split at hz
    · omega
    · split at hz
      · simp at hz; omega
      · split at hz
        · simp at hz; omega
        · split at hz
          · simp at hz; omega
          · simp at hz; omega
  omega
theorem name_noslash (s : ByteArray) : ∀ (f p : Nat), s.size ≤ p + f → nameFrom s f p = true → ∀ j, p ≤ j → j < s.size → bAt s j ≠ 47
  | 0, p, hf, _, j, h1, h2 => by omega
  | f + 1, p, hf, hn, j, h1, h2 => by
    simp only [nameFrom] at hn
    rw [if_pos (by omega)] at hn
    obtain ⟨f1, _, f3, _⟩ := decode_fits s p (by omega)
    cases hbad : badN s p with
    | true => rw [hbad, if_pos rfl] at hn; simp at hn
    | false =>
      rw [hbad, if_neg (by simp)] at hn
      unfold badN at hbad
      simp only [Bool.or_eq_false_iff, decide_eq_false_iff_not] at hbad
      obtain ⟨⟨⟨_, h47⟩, _⟩, hbr⟩ := hbad
      by_cases hj : p + (Utf8.decode s p).2 ≤ j
      · exact name_noslash s f _ (by omega) hn j hj h2
      · have henc := enc_dec s p hbr
        have hne : Utf8.decode s p ≠ (65533, 1) := by simpa [brokenB] using hbr
        by_cases hlow : (Utf8.decode s p).1 < 128
        · have hw : (Utf8.decode s p).2 = 1 := by
            rcases decode_range hne with ⟨a, _⟩ | ⟨_, a, _⟩ | ⟨_, a, _⟩ | ⟨_, a, _⟩
            · exact a
            all_goals omega
          have hjp : j = p := by omega
          subst hjp
          rw [hw] at henc
          unfold Lib.encodeRune at henc
          rw [Lib.encodeRuneZ_one (by omega) (by omega)] at henc
          simp only [List.map_cons, List.map_nil, List.range_one, List.cons.injEq, Nat.add_zero, and_true] at henc
          have e1 := u8n ((Utf8.decode s j).1 : Int) (by omega) (by omega)
          have e2 := u8_bAt s j
          rw [henc] at e1
          omega
        · have hm := enc_high (Utf8.decode s p).1 (by omega)
          rw [henc] at hm
          have := hm (UInt8.ofNat (bAt s (p + (j - p)))) (List.mem_map.2 ⟨j - p, by simp; omega, rfl⟩)
          rw [u8_bAt, show p + (j - p) = j by omega] at this
          omega
theorem name_parts (s : ByteArray) (h : nameOk s = true) : partsP s = [s] := by
  unfold nameOk at h
  simp only [Bool.and_eq_true] at h
  have hno := name_noslash s s.size 0 (by omega) h.2
  unfold partsP partsR
  rw [splitL_none]
  · simp [strB_self]
  · intro c hc e
    obtain ⟨j, hj, hj2⟩ := List.getElem_of_mem hc
    have hjs : j < s.size := by simpa using hj
    have hb := bAt_get s j hjs
    refine hno j (Nat.zero_le _) hjs ?_
    rw [← hb]
    have : s[j] = c := hj2
    rw [this, e]; rfl
theorem empty_noname : nameOk ⟨#[]⟩ = false := by decide +kernel
theorem isPath_iff (s : ByteArray) : isPath s = true ↔ s.size ≤ 200 ∧ slashes s.data.toList ≤ 7 ∧ (partsP s).all nameOk = true := by
  rw [isPath_parts, partsP_len2]
  simp only [Bool.and_eq_true, decide_eq_true_eq]
  constructor
  · rintro ⟨⟨h1, h2⟩, h3⟩; exact ⟨h1, by omega, h3⟩
  · rintro ⟨h1, h2, h3⟩; exact ⟨⟨h1, by omega⟩, h3⟩
/-- THE LAW of parent and base -/
theorem path_two (s : ByteArray) (h : isPath s = true) : nameOk (baseP s) = true ∧ ((parentP s = ⟨#[]⟩ ∧ baseP s = s) ∨
    (parentP s ≠ ⟨#[]⟩ ∧ parentP s ++ ⟨#[47]⟩ ++ baseP s = s ∧ isPath (parentP s) = true ∧ cmpL (partsP (parentP s)) (partsP s) = -1)) := by
  obtain ⟨h1, h2, h3⟩ := (isPath_iff s).1 h
  have hb : nameOk (baseP s) = true := by
    have := partsP_base s
    rw [this, List.all_append] at h3
    simp only [Bool.and_eq_true, List.all_cons, List.all_nil] at h3
    exact h3.2.1
  refine ⟨hb, ?_⟩
  rcases last_cases s with ⟨e, _⟩ | ⟨i, hi, e, h47, hp, _⟩
  · left
    unfold parentP baseP
    rw [e]
    exact ⟨ext_00 s, ext_zero s⟩
  · right
    have ep : parentP s = s.extract 0 i := by unfold parentP; rw [e]; rfl
    have eb : baseP s = s.extract (i + 1) s.size := by unfold baseP; rw [e]; congr 1
    have hj : parentP s ++ ⟨#[47]⟩ ++ baseP s = s := by
      rw [ep, eb]
      apply ByteArray.ext
      apply Array.toList_inj.1
      have e1 : (s.extract 0 i).data.toList = s.data.toList.take i := Lib.extract_from_zero s i
      have e2 : (s.extract (i + 1) s.size).data.toList = s.data.toList.drop (i + 1) := Lib.extract_to_end s (i + 1)
      have e4 : s.data.toList.drop i = s[i] :: s.data.toList.drop (i + 1) := List.drop_eq_getElem_cons (by simpa using hi)
      rw [ByteArray.data_append, ByteArray.data_append, Array.toList_append, Array.toList_append, e1, e2]
      show s.data.toList.take i ++ [47] ++ s.data.toList.drop (i + 1) = s.data.toList
      rw [List.append_assoc, List.singleton_append, ← h47, ← e4, List.take_append_drop]
    have hparts : partsP s = partsP (parentP s) ++ [baseP s] := by
      rw [ep, eb]
      unfold partsP partsR at *
      rw [hp, List.map_append, List.map_cons, List.map_nil, strB_self]
    rw [hparts, List.all_append] at h3
    simp only [Bool.and_eq_true] at h3
    have hz : (parentP s).size ≤ 200 := by rw [ep, ByteArray.size_extract]; omega
    have hl := partsP_len2 s
    rw [hparts, List.length_append, partsP_len2 (parentP s)] at hl
    simp only [List.length_cons, List.length_nil] at hl
    refine ⟨fun e0 => ?_, hj, (isPath_iff _).2 ⟨hz, by omega, h3.1⟩, ?_⟩
    · have h4 := h3.1
      rw [e0] at h4
      have : partsP ⟨#[]⟩ = [⟨#[]⟩] := rfl
      rw [this, List.all_cons, empty_noname] at h4
      simp at h4
    · rw [hparts]; exact cmpL_in _ _ (by simp)
/-- what is in a folder is a path, if it isn't too deep and not too long -/
theorem path_in (s n : ByteArray) (h : isPath s = true) (hn : nameOk n = true) : isPath (s ++ ⟨#[47]⟩ ++ n) = (decide (slashes s.data.toList < 7) && decide ((s ++ ⟨#[47]⟩ ++ n).size ≤ 200)) := by
  obtain ⟨h1, h2, h3⟩ := (isPath_iff s).1 h
  have hp := partsP_in s n
  unfold inP at hp
  rw [isPath_parts, hp, name_parts n hn, List.all_append, h3, List.length_append, partsP_len2]
  simp only [List.all_cons, List.all_nil, hn, List.length_cons, List.length_nil, Bool.and_self, Bool.and_true]
  rw [Bool.and_comm]
  congr 1
  exact decide_eq_decide.2 (by omega)
end Go.Proofs.YtbjompcaekbjoaaDoor
