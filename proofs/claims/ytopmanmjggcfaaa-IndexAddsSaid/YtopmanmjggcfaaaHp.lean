/- Digits of names: the plain law. -/
import Derived.Test.YtopmanmjggcfaaaRb
namespace Go.Proofs.Ytopmanmjggcfaaa
open Go.RowKit

def digN (p : Nat) : Nat := if p < 10 then 48 + p else 87 + p
/-- a digit's value; 16: it is none -/
def hexV (c : Int) : Int := if 48 ≤ c ∧ c ≤ 57 then c - 48 else if 97 ≤ c ∧ c ≤ 102 then c - 87 else 16
def isHex (c : Nat) : Bool := decide (48 ≤ c ∧ c ≤ 57) || decide (97 ≤ c ∧ c ≤ 102)
theorem hexV_dig (p : Nat) (h : p < 16) : hexV (digN p) = p := by
  unfold hexV digN
  split
  · rw [if_pos (by omega)]; omega
  · rw [if_neg (by omega), if_pos (by omega)]; omega
theorem hexV_none (c : Int) (h : ∀ p, p < 16 → (digN p : Int) ≠ c) : hexV c = 16 := by
  unfold hexV
  rw [if_neg, if_neg]
  · intro h2
    have := h (c - 87).toNat (by omega)
    unfold digN at this
    rw [if_neg (by omega)] at this
    omega
  · intro h2
    have := h (c - 48).toNat (by omega)
    unfold digN at this
    rw [if_pos (by omega)] at this
    omega
theorem hexV_is (c : Nat) : (hexV c = 16 ↔ isHex c = false) ∧ 0 ≤ hexV c ∧ hexV c ≤ 16 := by
  unfold hexV isHex
  by_cases h1 : 48 ≤ c ∧ c ≤ 57
  · rw [if_pos (by omega), decide_eq_true h1]; simp; omega
  · by_cases h2 : 97 ≤ c ∧ c ≤ 102
    · rw [if_neg (by omega), if_pos (by omega), decide_eq_true h2]; simp; omega
    · rw [if_neg (by omega), if_neg (by omega), decide_eq_false h1, decide_eq_false h2]; simp
theorem digN_hex (p : Nat) (h : p < 16) : isHex (digN p) = true := by
  unfold isHex digN
  split
  · rw [decide_eq_true (by omega)]; rfl
  · rw [decide_eq_true (show 97 ≤ 87 + p ∧ 87 + p ≤ 102 by omega)]; simp
def allHex (l : List UInt8) : Bool := l.all fun c => isHex c.toNat
/-- a name: 64 digits -/
def isNameD (s : ByteArray) : Bool := decide (s.size = 64) && allHex s.data.toList
theorem isHex_low {c : Nat} (h : isHex c = true) : c < 128 := by
  unfold isHex at h
  simp only [Bool.or_eq_true, decide_eq_true_eq] at h
  omega
/-- a digit is read as itself -/
theorem decode_hex (s : ByteArray) (p : Nat) (h : isHex (bAt s p) = true) : Utf8.decode s p = (bAt s p, 1) := by
  rw [decode_F]
  unfold decF
  simp only [Nat.add_zero]
  rw [if_pos (isHex_low h)]
/-- what is read as a digit is one -/
theorem hex_decode (s : ByteArray) (p : Nat) (h : isHex (Utf8.decode s p).1 = true) : Utf8.decode s p = (bAt s p, 1) ∧ isHex (bAt s p) = true := by
  by_cases hb : bAt s p < 128
  · have e : Utf8.decode s p = (bAt s p, 1) := by
      rw [decode_F]
      unfold decF
      simp only [Nat.add_zero]
      rw [if_pos hb]
    rw [e] at h
    exact ⟨e, h⟩
  · exfalso
    have hlow := isHex_low h
    rw [decode_F] at hlow
    unfold decF at hlow
    simp only [Nat.add_zero] at hlow
    rw [if_neg hb] at hlow
    split at hlow
    · split at hlow
      · simp only at hlow; omega
      · simp at hlow
    · split at hlow
      · split at hlow
        · next h2 => simp only [Bool.and_eq_true, decide_eq_true_eq] at h2; simp only at hlow; omega
        · simp at hlow
      · split at hlow
        · split at hlow
          · next h2 => simp only [Bool.and_eq_true, decide_eq_true_eq] at h2; simp only at hlow; omega
          · simp at hlow
        · simp at hlow
theorem allHex_take (s : ByteArray) (k : Nat) (h : k < s.size) (hp : allHex (s.data.toList.take k) = true) (hc : isHex (bAt s k) = true) : allHex (s.data.toList.take (k + 1)) = true :=
  ba_all_snoc s k h hp (by rw [bAt_get s k h]; exact hc)
theorem allHex_false (s : ByteArray) (k : Nat) (h : k < s.size) (hc : isHex (bAt s k) = false) : allHex s.data.toList = false :=
  ba_all_false s k h (by rw [bAt_get s k h]; exact hc)
def hexText : ByteArray := ⟨#[48, 49, 50, 51, 52, 53, 54, 55, 56, 57, 97, 98, 99, 100, 101, 102]⟩
theorem hexText_decode : ∀ p, p < 16 → Utf8.decode hexText p = (digN p, 1) := by decide +kernel
end Go.Proofs.Ytopmanmjggcfaaa
