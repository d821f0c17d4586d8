/- A decoded rune, written, is the bytes that it was read from. -/
import Derived.Test.YtbjompcaekbjoaaDoorRo
namespace Go.Proofs.YtbjompcaekbjoaaDoor
open Go.RowKit

theorem u8_of (z : Int) (n : Nat) (h : z = n) : z.toNat.toUInt8 = UInt8.ofNat n := by subst h; rfl
theorem enc_decF (b : Nat → Nat) (c : Nat → Bool) (hb : ∀ k, b k < 256) (hc : ∀ k, c k = true → b k / 64 = 2) (hne : decF b c ≠ (65533, 1)) :
    Lib.encodeRune ((decF b c).1 : Int) = (List.range (decF b c).2).map fun k => UInt8.ofNat (b k) := by
  have g0 := hb 0
  have g1 := hb 1
  have g2 := hb 2
  have g3 := hb 3
  unfold decF at hne ⊢
  by_cases q0 : b 0 < 128
  · rw [if_pos q0]
    unfold Lib.encodeRune
    rw [Lib.encodeRuneZ_one (by omega) (by omega)]
    simp only [List.map_cons, List.map_nil, List.range_one]
    rw [u8_of _ _ rfl]
  · rw [if_neg q0] at hne ⊢
    by_cases q1 : (b 0 / 32 == 6 && c 1) = true
    · rw [if_pos q1] at hne ⊢
      simp only [Bool.and_eq_true, beq_iff_eq] at q1
      have c1 := hc 1 q1.2
      by_cases r1 : 128 ≤ (b 0 % 32) * 64 + b 1 % 64
      · rw [if_pos r1]
        unfold Lib.encodeRune
        dsimp only
        rw [Lib.encodeRuneZ_two (by omega) (by omega)]
        simp only [List.map_cons, List.map_nil, show List.range 2 = [0, 1] from rfl]
        rw [u8_of _ (b 0) (by omega), u8_of _ (b 1) (by omega)]
      · rw [if_neg r1] at hne; exact absurd rfl hne
    · rw [if_neg q1] at hne ⊢
      by_cases q2 : (b 0 / 16 == 14 && c 1 && c 2) = true
      · rw [if_pos q2] at hne ⊢
        simp only [Bool.and_eq_true, beq_iff_eq] at q2
        have c1 := hc 1 q2.1.2
        have c2 := hc 2 q2.2
        by_cases r2 : (decide (2048 ≤ (b 0 % 16) * 4096 + (b 1 % 64) * 64 + b 2 % 64) && Utf8.valid ((b 0 % 16) * 4096 + (b 1 % 64) * 64 + b 2 % 64 : Nat)) = true
        · rw [if_pos r2]
          simp only [Bool.and_eq_true, decide_eq_true_eq, valid_iff] at r2
          unfold Lib.encodeRune
          dsimp only
          rw [Lib.encodeRuneZ_three (by omega)]
          simp only [List.map_cons, List.map_nil, show List.range 3 = [0, 1, 2] from rfl]
          rw [u8_of _ (b 0) (by omega), u8_of _ (b 1) (by omega), u8_of _ (b 2) (by omega)]
        · rw [if_neg r2] at hne; exact absurd rfl hne
      · rw [if_neg q2] at hne ⊢
        by_cases q3 : (b 0 / 8 == 30 && c 1 && c 2 && c 3) = true
        · rw [if_pos q3] at hne ⊢
          simp only [Bool.and_eq_true, beq_iff_eq] at q3
          have c1 := hc 1 q3.1.1.2
          have c2 := hc 2 q3.1.2
          have c3 := hc 3 q3.2
          by_cases r3 : (decide (65536 ≤ (b 0 % 8) * 262144 + (b 1 % 64) * 4096 + (b 2 % 64) * 64 + b 3 % 64) && Utf8.valid ((b 0 % 8) * 262144 + (b 1 % 64) * 4096 + (b 2 % 64) * 64 + b 3 % 64 : Nat)) = true
          · rw [if_pos r3]
            simp only [Bool.and_eq_true, decide_eq_true_eq, valid_iff] at r3
            unfold Lib.encodeRune
            dsimp only
            rw [Lib.encodeRuneZ_four (by omega) (by omega)]
            simp only [List.map_cons, List.map_nil, show List.range 4 = [0, 1, 2, 3] from rfl]
            rw [u8_of _ (b 0) (by omega), u8_of _ (b 1) (by omega), u8_of _ (b 2) (by omega), u8_of _ (b 3) (by omega)]
          · rw [if_neg r3] at hne; exact absurd rfl hne
        · rw [if_neg q3] at hne; exact absurd rfl hne
theorem enc_dec (s : ByteArray) (p : Nat) (hb : brokenB s p = false) : Lib.encodeRune ((Utf8.decode s p).1 : Int) = (List.range (Utf8.decode s p).2).map fun k => UInt8.ofNat (bAt s (p + k)) := by
  have hbb : Utf8.decode s p ≠ (65533, 1) := by simpa [brokenB] using hb
  rw [decode_F] at hbb ⊢
  refine enc_decF _ _ (fun k => bAt_lt s (p + k)) (fun k hk => ?_) hbb
  unfold contD at hk
  simp only [Bool.and_eq_true, beq_iff_eq] at hk
  exact hk.2
end Go.Proofs.YtbjompcaekbjoaaDoor
