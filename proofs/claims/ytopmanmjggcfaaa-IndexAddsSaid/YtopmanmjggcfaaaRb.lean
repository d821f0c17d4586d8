/- Runes of a text: the model's decoding at a place (the plain part). -/
import Derived.Test.YtopmanmjggcfaaaKit
import Derived.Lib.OthersKept
namespace Go.Proofs.Ytopmanmjggcfaaa
open Go.RowKit

/-- a text's byte -/
def bAt (s : ByteArray) (k : Nat) : Nat := (s.get! k).toNat
theorem bAt_get (s : ByteArray) (k : Nat) (h : k < s.size) : s[k].toNat = bAt s k := by
  unfold bAt
  have : s.get! k = s[k] := by
    show s.data[k]! = s.data[k]
    exact getElem!_pos s.data k h
  rw [this]
theorem bAt_lt (s : ByteArray) (k : Nat) : bAt s k < 256 := (s.get! k).toNat_lt
/-- the rune at the front, and its bytes; -1, 1: a broken byte -/
def runeI (s : ByteArray) : Int × Nat := if Utf8.decode s 0 = (65533, 1) then (-1, 1) else ((Utf8.decode s 0).1, (Utf8.decode s 0).2)
def contB (s : ByteArray) (k : Nat) : Prop := k < s.size ∧ 128 ≤ bAt s k ∧ bAt s k ≤ 191
instance contB_dec (s : ByteArray) (k : Nat) : Decidable (contB s k) := by unfold contB; infer_instance
theorem cont_eq (s : ByteArray) (k : Nat) : (decide (0 + k < s.size) && (bAt s (0 + k) / 64 == 2)) = true ↔ contB s k := by
  unfold contB
  have := bAt_lt s k
  simp only [Nat.zero_add, Bool.and_eq_true, decide_eq_true_eq, beq_iff_eq]
  omega
theorem decode_eq (s : ByteArray) : Utf8.decode s 0 =
    if bAt s 0 < 128 then (bAt s 0, 1)
    else if bAt s 0 / 32 = 6 ∧ contB s 1 then (if 128 ≤ (bAt s 0 % 32) * 64 + bAt s 1 % 64 then ((bAt s 0 % 32) * 64 + bAt s 1 % 64, 2) else (65533, 1))
    else if bAt s 0 / 16 = 14 ∧ contB s 1 ∧ contB s 2 then (if 2048 ≤ (bAt s 0 % 16) * 4096 + (bAt s 1 % 64) * 64 + bAt s 2 % 64 ∧ Utf8.valid ((bAt s 0 % 16) * 4096 + (bAt s 1 % 64) * 64 + bAt s 2 % 64 : Nat) = true then ((bAt s 0 % 16) * 4096 + (bAt s 1 % 64) * 64 + bAt s 2 % 64, 3) else (65533, 1))
    else if bAt s 0 / 8 = 30 ∧ contB s 1 ∧ contB s 2 ∧ contB s 3 then (if 65536 ≤ (bAt s 0 % 8) * 262144 + (bAt s 1 % 64) * 4096 + (bAt s 2 % 64) * 64 + bAt s 3 % 64 ∧ Utf8.valid ((bAt s 0 % 8) * 262144 + (bAt s 1 % 64) * 4096 + (bAt s 2 % 64) * 64 + bAt s 3 % 64 : Nat) = true then ((bAt s 0 % 8) * 262144 + (bAt s 1 % 64) * 4096 + (bAt s 2 % 64) * 64 + bAt s 3 % 64, 4) else (65533, 1))
    else (65533, 1) := by
  have h1 := cont_eq s 1
  have h2 := cont_eq s 2
  have h3 := cont_eq s 3
  unfold Utf8.decode
  simp only [Utf8.runeError]
  change (if bAt s (0 + 0) < 128 then (bAt s (0 + 0), 1)
    else if (bAt s (0 + 0) / 32 == 6 && (decide (0 + 1 < s.size) && (bAt s (0 + 1) / 64 == 2))) = true then (if 128 ≤ (bAt s (0 + 0) % 32) * 64 + bAt s (0 + 1) % 64 then ((bAt s (0 + 0) % 32) * 64 + bAt s (0 + 1) % 64, 2) else (65533, 1))
    else if (bAt s (0 + 0) / 16 == 14 && (decide (0 + 1 < s.size) && (bAt s (0 + 1) / 64 == 2)) && (decide (0 + 2 < s.size) && (bAt s (0 + 2) / 64 == 2))) = true then (if (decide (2048 ≤ (bAt s (0 + 0) % 16) * 4096 + (bAt s (0 + 1) % 64) * 64 + bAt s (0 + 2) % 64) && Utf8.valid ((bAt s (0 + 0) % 16) * 4096 + (bAt s (0 + 1) % 64) * 64 + bAt s (0 + 2) % 64 : Nat)) = true then ((bAt s (0 + 0) % 16) * 4096 + (bAt s (0 + 1) % 64) * 64 + bAt s (0 + 2) % 64, 3) else (65533, 1))
    else if (bAt s (0 + 0) / 8 == 30 && (decide (0 + 1 < s.size) && (bAt s (0 + 1) / 64 == 2)) && (decide (0 + 2 < s.size) && (bAt s (0 + 2) / 64 == 2)) && (decide (0 + 3 < s.size) && (bAt s (0 + 3) / 64 == 2))) = true then (if (decide (65536 ≤ (bAt s (0 + 0) % 8) * 262144 + (bAt s (0 + 1) % 64) * 4096 + (bAt s (0 + 2) % 64) * 64 + bAt s (0 + 3) % 64) && Utf8.valid ((bAt s (0 + 0) % 8) * 262144 + (bAt s (0 + 1) % 64) * 4096 + (bAt s (0 + 2) % 64) * 64 + bAt s (0 + 3) % 64 : Nat)) = true then ((bAt s (0 + 0) % 8) * 262144 + (bAt s (0 + 1) % 64) * 4096 + (bAt s (0 + 2) % 64) * 64 + bAt s (0 + 3) % 64, 4) else (65533, 1))
    else (65533, 1)) = _
  simp only [Nat.zero_add] at h1 h2 h3 ⊢
  simp only [Bool.and_eq_true, h1, h2, h3, beq_iff_eq, decide_eq_true_eq, and_assoc]
/-- a value, byte by byte -/
def vK (s : ByteArray) (base : Nat) : Nat → Int
  | 0 => 0
  | 1 => (bAt s 0 : Int) - base
  | k + 2 => 64 * vK s base (k + 1) + bAt s (k + 1) - 128
theorem runeI_one {s : ByteArray} (h : bAt s 0 < 128) : runeI s = ((bAt s 0 : Int), 1) := by
  have e : Utf8.decode s 0 = (bAt s 0, 1) := by rw [decode_eq, if_pos h]
  unfold runeI
  rw [e, if_neg (by simp only [Prod.mk.injEq]; omega)]
theorem runeI_bad {s : ByteArray} (h : Utf8.decode s 0 = (65533, 1)) : runeI s = (-1, 1) := if_pos h
theorem runeI_none {s : ByteArray} (h : (128 ≤ bAt s 0 ∧ bAt s 0 < 192) ∨ 248 ≤ bAt s 0) : runeI s = (-1, 1) := by
  have := bAt_lt s 0
  refine runeI_bad ?_
  rw [decode_eq, if_neg (by omega), if_neg (by omega), if_neg (by omega), if_neg (by omega)]
theorem valid_iff (n : Nat) : Utf8.valid (n : Int) = true ↔ (n < 55296 ∨ (57344 ≤ n ∧ n ≤ 1114111)) := by
  simp only [Utf8.valid, Bool.or_eq_true, Bool.and_eq_true, decide_eq_true_eq]; omega
theorem ret_two {a b : Int} {c d : Int} (h1 : a = c) (h2 : b = d) : Ending.returned (.tuple #[.int .i64 a, .int .i64 b]) = .returned (.tuple #[.int .i64 c, .int .i64 d]) := by rw [h1, h2]
theorem v2_of {s : ByteArray} (h : 192 ≤ bAt s 0 ∧ bAt s 0 < 224) (h1 : contB s 1) : vK s 192 2 = (((bAt s 0 % 32) * 64 + bAt s 1 % 64 : Nat) : Int) := by
  obtain ⟨_, h2, h3⟩ := h1
  simp only [vK, Nat.zero_add]; omega
theorem v3_of {s : ByteArray} (h : 224 ≤ bAt s 0 ∧ bAt s 0 < 240) (h1 : contB s 1) (h2 : contB s 2) : vK s 224 3 = (((bAt s 0 % 16) * 4096 + (bAt s 1 % 64) * 64 + bAt s 2 % 64 : Nat) : Int) := by
  obtain ⟨_, _, _⟩ := h1
  obtain ⟨_, _, _⟩ := h2
  simp only [vK, Nat.reduceAdd, Nat.zero_add]; omega
theorem v4_of {s : ByteArray} (h : 240 ≤ bAt s 0 ∧ bAt s 0 < 248) (h1 : contB s 1) (h2 : contB s 2) (h3 : contB s 3) : vK s 240 4 = (((bAt s 0 % 8) * 262144 + (bAt s 1 % 64) * 4096 + (bAt s 2 % 64) * 64 + bAt s 3 % 64 : Nat) : Int) := by
  obtain ⟨_, _, _⟩ := h1
  obtain ⟨_, _, _⟩ := h2
  obtain ⟨_, _, _⟩ := h3
  simp only [vK, Nat.reduceAdd, Nat.zero_add]; omega

theorem rune2_bad {s : ByteArray} (h : 192 ≤ bAt s 0 ∧ bAt s 0 < 224) {j : Nat} (h1 : 1 ≤ j) (h2 : j < 2) (hb : ¬ contB s j) : runeI s = (-1, 1) := by
  refine runeI_bad ?_
  have hj : j = 1 := by omega
  rw [decode_eq, if_neg (by omega)]
  subst hj
  rw [if_neg (fun hx => hb hx.2), if_neg (by omega), if_neg (by omega)]
theorem rune2_val {s : ByteArray} (h : 192 ≤ bAt s 0 ∧ bAt s 0 < 224) (hc : ∀ j, 1 ≤ j → j < 2 → contB s j) : runeI s = if vK s 192 2 < 128 ∨ 1114111 < vK s 192 2 ∨ (55296 ≤ vK s 192 2 ∧ vK s 192 2 ≤ 57343) then (-1, 1) else (vK s 192 2, 2) := by
  have c1 := hc 1 (by omega) (by omega)
  have hv := v2_of h c1
  rw [hv]
  have e := decode_eq s
  rw [if_neg (by omega), if_pos ⟨by omega, c1⟩] at e
  have hlt : (bAt s 0 % 32) * 64 + bAt s 1 % 64 < 2048 := by omega
  generalize (bAt s 0 % 32) * 64 + bAt s 1 % 64 = v at *
  split
  · next hx =>
    refine runeI_bad ?_
    rw [e, if_neg ?_]
    omega
  · next hx =>
    have e2 : Utf8.decode s 0 = (v, 2) := by
      rw [e, if_pos ?_]
      omega
    unfold runeI
    rw [e2, if_neg (by simp)]
theorem cont_eq' (s : ByteArray) (i k : Nat) : (decide (i + k < s.size) && (bAt s (i + k) / 64 == 2)) = true ↔ contB s (i + k) := by
  unfold contB
  have := bAt_lt s (i + k)
  simp only [Bool.and_eq_true, decide_eq_true_eq, beq_iff_eq]
  omega
/-- the model's decoding, by a text's bytes from a place on -/
def decF (b : Nat → Nat) (c : Nat → Bool) : Nat × Nat :=
  if b 0 < 128 then (b 0, 1)
  else if (b 0 / 32 == 6 && c 1) = true then (if 128 ≤ (b 0 % 32) * 64 + b 1 % 64 then ((b 0 % 32) * 64 + b 1 % 64, 2) else (65533, 1))
  else if (b 0 / 16 == 14 && c 1 && c 2) = true then (if (decide (2048 ≤ (b 0 % 16) * 4096 + (b 1 % 64) * 64 + b 2 % 64) && Utf8.valid ((b 0 % 16) * 4096 + (b 1 % 64) * 64 + b 2 % 64 : Nat)) = true then ((b 0 % 16) * 4096 + (b 1 % 64) * 64 + b 2 % 64, 3) else (65533, 1))
  else if (b 0 / 8 == 30 && c 1 && c 2 && c 3) = true then (if (decide (65536 ≤ (b 0 % 8) * 262144 + (b 1 % 64) * 4096 + (b 2 % 64) * 64 + b 3 % 64) && Utf8.valid ((b 0 % 8) * 262144 + (b 1 % 64) * 4096 + (b 2 % 64) * 64 + b 3 % 64 : Nat)) = true then ((b 0 % 8) * 262144 + (b 1 % 64) * 4096 + (b 2 % 64) * 64 + b 3 % 64, 4) else (65533, 1))
  else (65533, 1)
def contD (s : ByteArray) (i k : Nat) : Bool := decide (i + k < s.size) && (bAt s (i + k) / 64 == 2)
theorem decode_F (s : ByteArray) (i : Nat) : Utf8.decode s i = decF (fun k => bAt s (i + k)) (contD s i) := rfl
theorem decF_congr {b b' : Nat → Nat} {c c' : Nat → Bool} (h0 : b 0 = b' 0) (hc : ∀ k, c k = c' k) (hb : ∀ k, c' k = true → b k = b' k) : decF b c = decF b' c' := by
  unfold decF
  rw [h0, hc 1, hc 2, hc 3]
  cases h1 : c' 1 with
  | false => simp
  | true =>
    rw [hb 1 h1]
    cases h2 : c' 2 with
    | false => simp
    | true =>
      rw [hb 2 h2]
      cases h3 : c' 3 with
      | false => simp
      | true => rw [hb 3 h3]
theorem bAt_ext (s : ByteArray) (i k : Nat) (h : i + k < s.size) : bAt (s.extract i s.size) k = bAt s (i + k) := by
  have hz : k < (s.extract i s.size).size := by rw [ByteArray.size_extract]; omega
  rw [← bAt_get _ _ hz, ← bAt_get _ _ h]
  congr 1
  show (s.extract i s.size).data[k]'_ = s.data[i + k]'_
  simp [ByteArray.data_extract]
/-- the rest of a text is decoded as the text is from there on -/
theorem decode_ext (s : ByteArray) (i : Nat) (h : i < s.size) : Utf8.decode (s.extract i s.size) 0 = Utf8.decode s i := by
  rw [decode_F, decode_F]
  have hz : (s.extract i s.size).size = s.size - i := by rw [ByteArray.size_extract]; omega
  have hb : ∀ k, i + k < s.size → bAt (s.extract i s.size) (0 + k) = bAt s (i + k) := fun k hk => by rw [Nat.zero_add]; exact bAt_ext s i k hk
  refine decF_congr (hb 0 (by omega)) (fun k => ?_) (fun k hk => hb k ?_)
  · unfold contD
    by_cases hk : i + k < s.size
    · rw [hb k hk, hz, decide_eq_true (show 0 + k < s.size - i by omega), decide_eq_true hk]
    · rw [hz, decide_eq_false (show ¬ 0 + k < s.size - i by omega), decide_eq_false hk]; rfl
  · unfold contD at hk
    simp only [Bool.and_eq_true, decide_eq_true_eq] at hk
    exact hk.1
theorem decode_fits (s : ByteArray) (i : Nat) (h : i < s.size) : 1 ≤ (Utf8.decode s i).2 ∧ (Utf8.decode s i).2 ≤ 4 ∧ i + (Utf8.decode s i).2 ≤ s.size ∧ (Utf8.decode s i).1 ≤ 1114111 := by
  rw [decode_F]
  have hc : ∀ k, contD s i k = true → i + k < s.size := fun k hk => by
    unfold contD at hk
    simp only [Bool.and_eq_true, decide_eq_true_eq] at hk
    exact hk.1
  unfold decF
  split
  · next h0 => exact ⟨by simp, by simp, by simp; omega, Nat.le_trans (Nat.le_of_lt h0) (by decide)⟩
  · split
    · next h1 =>
      simp only [Bool.and_eq_true] at h1
      have := hc 1 h1.2
      split
      · exact ⟨by simp, by simp, by simp; omega, by simp; omega⟩
      · exact ⟨by simp, by simp, by simp; omega, by simp⟩
    · split
      · next h1 =>
        simp only [Bool.and_eq_true] at h1
        have := hc 2 h1.2
        split
        · next h2 =>
          simp only [Bool.and_eq_true, valid_iff] at h2
          exact ⟨by simp, by simp, by simp; omega, by simp only; omega⟩
        · exact ⟨by simp, by simp, by simp; omega, by simp⟩
      · split
        · next h1 =>
          simp only [Bool.and_eq_true] at h1
          have := hc 3 h1.2
          split
          · next h2 =>
            simp only [Bool.and_eq_true, valid_iff] at h2
            exact ⟨by simp, by simp, by simp; omega, by simp only; omega⟩
          · exact ⟨by simp, by simp, by simp; omega, by simp⟩
        · exact ⟨by simp, by simp, by simp; omega, by simp⟩
end Go.Proofs.Ytopmanmjggcfaaa
