/- The document's Rune: just the model's own decoding. Three cases printed by wip/gen/mkrune.py. -/
import Derived.Test.YtpeepdkeicgkiaaGreatDoorZo1
namespace Go.Proofs.YtpeepdkeicgkiaaGreatDoor
set_option linter.unusedVariables false
set_option linter.unusedSimpArgs false
set_option linter.unusedSectionVars false
open Go.RowKit

/-- a text's byte -/
def bAt (s : ByteArray) (k : Nat) : Nat := (s.get! k).toNat
theorem bAt_get (s : ByteArray) (k : Nat) (h : k < s.size) : s[k].toNat = bAt s k := by
  unfold bAt
  have : s.get! k = s[k] := by
    show s.data[k]! = s.data[k]
    exact getElem!_pos s.data k h
  rw [this]
theorem bAt_lt (s : ByteArray) (k : Nat) : bAt s k < 256 := (s.get! k).toNat_lt
/-- the rune at the front, and its bytes; -1, 1: a broken byte -/
def runeI (s : ByteArray) : Int × Nat := if Utf8.decode s 0 = (65533, 1) then (-1, 1) else ((Utf8.decode s 0).1, (Utf8.decode s 0).2)
def contB (s : ByteArray) (k : Nat) : Prop := k < s.size ∧ 128 ≤ bAt s k ∧ bAt s k ≤ 191
instance contB_dec (s : ByteArray) (k : Nat) : Decidable (contB s k) := by unfold contB; infer_instance
theorem cont_eq (s : ByteArray) (k : Nat) : (decide (0 + k < s.size) && (bAt s (0 + k) / 64 == 2)) = true ↔ contB s k := by
  unfold contB
  have := bAt_lt s k
  simp only [Nat.zero_add, Bool.and_eq_true, decide_eq_true_eq, beq_iff_eq]
  omega
theorem decode_eq (s : ByteArray) : Utf8.decode s 0 =
    if bAt s 0 < 128 then (bAt s 0, 1)
    else if bAt s 0 / 32 = 6 ∧ contB s 1 then (if 128 ≤ (bAt s 0 % 32) * 64 + bAt s 1 % 64 then ((bAt s 0 % 32) * 64 + bAt s 1 % 64, 2) else (65533, 1))
    else if bAt s 0 / 16 = 14 ∧ contB s 1 ∧ contB s 2 then (if 2048 ≤ (bAt s 0 % 16) * 4096 + (bAt s 1 % 64) * 64 + bAt s 2 % 64 ∧ Utf8.valid ((bAt s 0 % 16) * 4096 + (bAt s 1 % 64) * 64 + bAt s 2 % 64 : Nat) = true then ((bAt s 0 % 16) * 4096 + (bAt s 1 % 64) * 64 + bAt s 2 % 64, 3) else (65533, 1))
    else if bAt s 0 / 8 = 30 ∧ contB s 1 ∧ contB s 2 ∧ contB s 3 then (if 65536 ≤ (bAt s 0 % 8) * 262144 + (bAt s 1 % 64) * 4096 + (bAt s 2 % 64) * 64 + bAt s 3 % 64 ∧ Utf8.valid ((bAt s 0 % 8) * 262144 + (bAt s 1 % 64) * 4096 + (bAt s 2 % 64) * 64 + bAt s 3 % 64 : Nat) = true then ((bAt s 0 % 8) * 262144 + (bAt s 1 % 64) * 4096 + (bAt s 2 % 64) * 64 + bAt s 3 % 64, 4) else (65533, 1))
    else (65533, 1) := by
  have h1 := cont_eq s 1
  have h2 := cont_eq s 2
  have h3 := cont_eq s 3
  unfold Utf8.decode
  simp only [Utf8.runeError]
  change (if bAt s (0 + 0) < 128 then (bAt s (0 + 0), 1)
    else if (bAt s (0 + 0) / 32 == 6 && (decide (0 + 1 < s.size) && (bAt s (0 + 1) / 64 == 2))) = true then (if 128 ≤ (bAt s (0 + 0) % 32) * 64 + bAt s (0 + 1) % 64 then ((bAt s (0 + 0) % 32) * 64 + bAt s (0 + 1) % 64, 2) else (65533, 1))
    else if (bAt s (0 + 0) / 16 == 14 && (decide (0 + 1 < s.size) && (bAt s (0 + 1) / 64 == 2)) && (decide (0 + 2 < s.size) && (bAt s (0 + 2) / 64 == 2))) = true then (if (decide (2048 ≤ (bAt s (0 + 0) % 16) * 4096 + (bAt s (0 + 1) % 64) * 64 + bAt s (0 + 2) % 64) && Utf8.valid ((bAt s (0 + 0) % 16) * 4096 + (bAt s (0 + 1) % 64) * 64 + bAt s (0 + 2) % 64 : Nat)) = true then ((bAt s (0 + 0) % 16) * 4096 + (bAt s (0 + 1) % 64) * 64 + bAt s (0 + 2) % 64, 3) else (65533, 1))
    else if (bAt s (0 + 0) / 8 == 30 && (decide (0 + 1 < s.size) && (bAt s (0 + 1) / 64 == 2)) && (decide (0 + 2 < s.size) && (bAt s (0 + 2) / 64 == 2)) && (decide (0 + 3 < s.size) && (bAt s (0 + 3) / 64 == 2))) = true then (if (decide (65536 ≤ (bAt s (0 + 0) % 8) * 262144 + (bAt s (0 + 1) % 64) * 4096 + (bAt s (0 + 2) % 64) * 64 + bAt s (0 + 3) % 64) && Utf8.valid ((bAt s (0 + 0) % 8) * 262144 + (bAt s (0 + 1) % 64) * 4096 + (bAt s (0 + 2) % 64) * 64 + bAt s (0 + 3) % 64 : Nat)) = true then ((bAt s (0 + 0) % 8) * 262144 + (bAt s (0 + 1) % 64) * 4096 + (bAt s (0 + 2) % 64) * 64 + bAt s (0 + 3) % 64, 4) else (65533, 1))
    else (65533, 1)) = _
  simp only [Nat.zero_add] at h1 h2 h3 ⊢
  simp only [Bool.and_eq_true, h1, h2, h3, beq_iff_eq, decide_eq_true_eq, and_assoc]
/-- a value, byte by byte -/
def vK (s : ByteArray) (base : Nat) : Nat → Int
  | 0 => 0
  | 1 => (bAt s 0 : Int) - base
  | k + 2 => 64 * vK s base (k + 1) + bAt s (k + 1) - 128
theorem runeI_one {s : ByteArray} (h : bAt s 0 < 128) : runeI s = ((bAt s 0 : Int), 1) := by
  have e : Utf8.decode s 0 = (bAt s 0, 1) := by rw [decode_eq, if_pos h]
  unfold runeI
  rw [e, if_neg (by simp only [Prod.mk.injEq]; omega)]
theorem runeI_bad {s : ByteArray} (h : Utf8.decode s 0 = (65533, 1)) : runeI s = (-1, 1) := if_pos h
theorem runeI_none {s : ByteArray} (h : (128 ≤ bAt s 0 ∧ bAt s 0 < 192) ∨ 248 ≤ bAt s 0) : runeI s = (-1, 1) := by
  have := bAt_lt s 0
  refine runeI_bad ?_
  rw [decode_eq, if_neg (by omega), if_neg (by omega), if_neg (by omega), if_neg (by omega)]
theorem valid_iff (n : Nat) : Utf8.valid (n : Int) = true ↔ (n < 55296 ∨ (57344 ≤ n ∧ n ≤ 1114111)) := by
  simp only [Utf8.valid, Bool.or_eq_true, Bool.and_eq_true, decide_eq_true_eq]; omega
theorem ret_two {a b : Int} {c d : Int} (h1 : a = c) (h2 : b = d) : Ending.returned (.tuple #[.int .i64 a, .int .i64 b]) = .returned (.tuple #[.int .i64 c, .int .i64 d]) := by rw [h1, h2]
theorem v2_of {s : ByteArray} (h : 192 ≤ bAt s 0 ∧ bAt s 0 < 224) (h1 : contB s 1) : vK s 192 2 = (((bAt s 0 % 32) * 64 + bAt s 1 % 64 : Nat) : Int) := by
  obtain ⟨_, h2, h3⟩ := h1
  simp only [vK, Nat.zero_add]; omega
theorem v3_of {s : ByteArray} (h : 224 ≤ bAt s 0 ∧ bAt s 0 < 240) (h1 : contB s 1) (h2 : contB s 2) : vK s 224 3 = (((bAt s 0 % 16) * 4096 + (bAt s 1 % 64) * 64 + bAt s 2 % 64 : Nat) : Int) := by
  obtain ⟨_, _, _⟩ := h1
  obtain ⟨_, _, _⟩ := h2
  simp only [vK, Nat.reduceAdd, Nat.zero_add]; omega
theorem v4_of {s : ByteArray} (h : 240 ≤ bAt s 0 ∧ bAt s 0 < 248) (h1 : contB s 1) (h2 : contB s 2) (h3 : contB s 3) : vK s 240 4 = (((bAt s 0 % 8) * 262144 + (bAt s 1 % 64) * 4096 + (bAt s 2 % 64) * 64 + bAt s 3 % 64 : Nat) : Int) := by
  obtain ⟨_, _, _⟩ := h1
  obtain ⟨_, _, _⟩ := h2
  obtain ⟨_, _, _⟩ := h3
  simp only [vK, Nat.reduceAdd, Nat.zero_add]; omega

theorem rune2_bad {s : ByteArray} (h : 192 ≤ bAt s 0 ∧ bAt s 0 < 224) {j : Nat} (h1 : 1 ≤ j) (h2 : j < 2) (hb : ¬ contB s j) : runeI s = (-1, 1) := by
  refine runeI_bad ?_
  have hj : j = 1 := by omega
  rw [decode_eq, if_neg (by omega)]
  subst hj
  rw [if_neg (fun hx => hb hx.2), if_neg (by omega), if_neg (by omega)]
theorem rune2_val {s : ByteArray} (h : 192 ≤ bAt s 0 ∧ bAt s 0 < 224) (hc : ∀ j, 1 ≤ j → j < 2 → contB s j) : runeI s = if vK s 192 2 < 128 ∨ 1114111 < vK s 192 2 ∨ (55296 ≤ vK s 192 2 ∧ vK s 192 2 ≤ 57343) then (-1, 1) else (vK s 192 2, 2) := by
  have c1 := hc 1 (by omega) (by omega)
  have hv := v2_of h c1
  rw [hv]
  have e := decode_eq s
  rw [if_neg (by omega), if_pos ⟨by omega, c1⟩] at e
  have hlt : (bAt s 0 % 32) * 64 + bAt s 1 % 64 < 2048 := by omega
  generalize (bAt s 0 % 32) * 64 + bAt s 1 % 64 = v at *
  split
  · next hx =>
    refine runeI_bad ?_
    rw [e, if_neg ?_]
    omega
  · next hx =>
    have e2 : Utf8.decode s 0 = (v, 2) := by
      rw [e, if_pos ?_]
      omega
    unfold runeI
    rw [e2, if_neg (by simp)]
set_option maxRecDepth 100000 in
set_option maxHeartbeats 1600000 in
theorem rune2_any (s : ByteArray) (w : World) (hs : s.size ≤ 1099511627776) (h0 : 0 < s.size) (h : 192 ≤ bAt s 0 ∧ bAt s 0 < 224) :
    Calls Tryz.prog 91 #[.string s] w fun e w' => e = .returned (.tuple #[.int .i64 (runeI s).1, .int .i64 (runeI s).2]) ∧ w = w' := by
  have hb0 := bAt_get s 0 h0
  have HB0 := Lib.hid hb0
  obtain ⟨g1, g2⟩ := h
  have hq1 : (192 : Int) ≤ (s[0].toNat : Int) := by omega
  have hq2 : (s[0].toNat : Int) < 224 := by omega
  have HG := Lib.hid (And.intro g1 g2)
  clear hb0 g1 g2
  by_cases hn : s.size < 2
  · have HR := Lib.hid (rune2_bad HG.out (j := s.size) (by omega) (by omega) (fun hc => by have := hc.1; omega))
    go_enter Tryz.func91, Tryz.ntmps91
    go_wp2
    go_ret2
    rw [HR.out]
    exact ⟨rfl, rfl⟩
  · have HV1 := Lib.hid (show vK s 192 1 = (s[0].toNat : Int) - 192 by simp only [vK]; rw [HB0.out]; omega)
    go_enter Tryz.func91, Tryz.ntmps91
    go_wp2
    go_loop [4, 7] (fun c i => ∃ k : Nat, 1 ≤ k ∧ k ≤ 2 ∧ i = .int .i64 (k : Nat) ∧ c = .int .i64 (vK s 192 k) ∧ 0 ≤ vK s 192 k ∧ vK s 192 k < 64 ^ k ∧ ∀ j, 1 ≤ j → j < k → contB s j) (fun _ i => 2 - (intOf i).toNat)
    case atStart => exact ⟨1, Nat.le_refl _, by omega, rfl, by rw [HV1.out], by rw [HV1.out]; omega, by rw [HV1.out]; omega, fun j a b => by omega⟩
    case round =>
      obtain ⟨k, hk1, hk2, rfl, rfl, hv1, hv2, hc⟩ := hrel
      have HC := Lib.hid hc
      clear hc
      by_cases hlt : k < 2
      · have hks : k < s.size := by omega
        have hbk := bAt_get s k hks
        have HBK := Lib.hid hbk
        have hstep : vK s 192 (k + 1) = 64 * vK s 192 k + (s[k].toNat : Int) - 128 := by
          obtain ⟨j, rfl⟩ : ∃ j, k = j + 1 := ⟨k - 1, by omega⟩
          rw [hbk]; rfl
        have hp : (64 : Int) ^ (k + 1) = 64 * 64 ^ k := by rw [Int.pow_succ]; omega
        have hp2 : (64 : Int) ^ k ≤ 16777216 := by
          have : k = 1 ∨ k = 2 ∨ k = 3 := by omega
          rcases this with rfl | rfl | rfl <;> decide
        have hbad : (s[k].toNat < 128 ∨ 191 < s[k].toNat) → runeI s = (-1, 1) := fun hx => rune2_bad HG.out hk1 hlt (fun hcc => by obtain ⟨_, a, b⟩ := hcc; omega)
        have hgood : ¬ (s[k].toNat < 128 ∨ 191 < s[k].toNat) → ∀ j, 1 ≤ j → j < k + 1 → contB s j := fun hx j a b => by
          by_cases e : j = k
          · subst e; exact ⟨hks, by omega, by omega⟩
          · exact HC.out j a (by omega)
        have hvn : 128 ≤ s[k].toNat → s[k].toNat ≤ 191 → 0 ≤ vK s 192 (k + 1) ∧ vK s 192 (k + 1) < 64 ^ (k + 1) := fun a b => by rw [hstep, hp]; omega
        have hub := s[k].toNat_lt
        have HS := Lib.hid hstep
        have HBAD := Lib.hid hbad
        have HGOOD := Lib.hid hgood
        have HVN := Lib.hid hvn
        have hvb : vK s 192 k ≤ 16777216 := by omega
        clear hstep hp hp2 hbad hgood hvn hv2 HBK hbk
        generalize vK s 192 k = vk at *
        rcases (by omega : (s[k].toNat : Int) < 128 ∨ (128 ≤ (s[k].toNat : Int) ∧ 191 < (s[k].toNat : Int)) ∨ (128 ≤ (s[k].toNat : Int) ∧ (s[k].toNat : Int) ≤ 191)) with q1 | ⟨q1, q2⟩ | ⟨q1, q2⟩
        · have HR := Lib.hid (HBAD.out (by omega))
          clear HBAD HGOOD HVN
          go_wp2
          go_ret2
          rw [HR.out]
          exact ⟨rfl, rfl⟩
        · have HR := Lib.hid (HBAD.out (by omega))
          clear HBAD HGOOD HVN
          go_wp2
          go_ret2
          rw [HR.out]
          exact ⟨rfl, rfl⟩
        · have HR := Lib.hid (HGOOD.out (by omega))
          have HQ := Lib.hid (HVN.out (by omega) (by omega))
          clear HBAD HGOOD HVN
          go_wp2
          go_round
          case rel => exact ⟨k + 1, by omega, by omega, by go_num, by rw [HS.out], HQ.out.1, HQ.out.2, HR.out⟩
          case measure => simp [intOf]; omega
      · obtain rfl : k = 2 := by omega
        have HV := Lib.hid (rune2_val HG.out HC.out)
        generalize vK s 192 2 = v at *
        clear hlt hv2
        rcases (by omega : v < 128 ∨ (128 ≤ v ∧ 1114111 < v) ∨ (128 ≤ v ∧ v ≤ 1114111 ∧ 55296 ≤ v ∧ v ≤ 57343) ∨ (128 ≤ v ∧ v ≤ 1114111 ∧ v < 55296) ∨ (128 ≤ v ∧ v ≤ 1114111 ∧ 55296 ≤ v ∧ 57343 < v)) with q | ⟨q1, q2⟩ | ⟨q1, q2, q3, q4⟩ | ⟨q1, q2, q3⟩ | ⟨q1, q2, q3, q4⟩
        · have HR := Lib.hid (HV.out.trans (if_pos (by omega)))
          go_wp2
          go_ret2
          rw [HR.out]
          exact ⟨rfl, rfl⟩
        · have HR := Lib.hid (HV.out.trans (if_pos (by omega)))
          go_wp2
          go_ret2
          rw [HR.out]
          exact ⟨rfl, rfl⟩
        · have HR := Lib.hid (HV.out.trans (if_pos (by omega)))
          go_wp2
          go_ret2
          rw [HR.out]
          exact ⟨rfl, rfl⟩
        · first
            | (exfalso; omega)
            | (have HR := Lib.hid (HV.out.trans (if_neg (by omega)))
               go_wp2
               go_ret2
               rw [HR.out]
               exact ⟨rfl, rfl⟩)
        · have HR := Lib.hid (HV.out.trans (if_neg (by omega)))
          go_wp2
          go_ret2
          rw [HR.out]
          exact ⟨rfl, rfl⟩

theorem rune3_bad {s : ByteArray} (h : 224 ≤ bAt s 0 ∧ bAt s 0 < 240) {j : Nat} (h1 : 1 ≤ j) (h2 : j < 3) (hb : ¬ contB s j) : runeI s = (-1, 1) := by
  refine runeI_bad ?_
  have hj : j = 1 ∨ j = 2 := by omega
  rw [decode_eq, if_neg (by omega)]
  rw [if_neg (by omega), if_neg (fun hx => by rcases hj with rfl | rfl <;> simp_all), if_neg (by omega)]
theorem rune3_val {s : ByteArray} (h : 224 ≤ bAt s 0 ∧ bAt s 0 < 240) (hc : ∀ j, 1 ≤ j → j < 3 → contB s j) : runeI s = if vK s 224 3 < 2048 ∨ 1114111 < vK s 224 3 ∨ (55296 ≤ vK s 224 3 ∧ vK s 224 3 ≤ 57343) then (-1, 1) else (vK s 224 3, 3) := by
  have c1 := hc 1 (by omega) (by omega)
  have c2 := hc 2 (by omega) (by omega)
  have hv := v3_of h c1 c2
  rw [hv]
  have e := decode_eq s
  rw [if_neg (by omega), if_neg (by omega), if_pos ⟨by omega, c1, c2⟩] at e
  generalize (bAt s 0 % 16) * 4096 + (bAt s 1 % 64) * 64 + bAt s 2 % 64 = v at *
  split
  · next hx =>
    refine runeI_bad ?_
    rw [e, if_neg ?_]
    rw [valid_iff]; omega
  · next hx =>
    have e2 : Utf8.decode s 0 = (v, 3) := by
      rw [e, if_pos ?_]
      rw [valid_iff]; omega
    unfold runeI
    rw [e2, if_neg (by simp)]
set_option maxRecDepth 100000 in
set_option maxHeartbeats 1600000 in
theorem rune3_any (s : ByteArray) (w : World) (hs : s.size ≤ 1099511627776) (h0 : 0 < s.size) (h : 224 ≤ bAt s 0 ∧ bAt s 0 < 240) :
    Calls Tryz.prog 91 #[.string s] w fun e w' => e = .returned (.tuple #[.int .i64 (runeI s).1, .int .i64 (runeI s).2]) ∧ w = w' := by
  have hb0 := bAt_get s 0 h0
  have HB0 := Lib.hid hb0
  obtain ⟨g1, g2⟩ := h
  have hq1 : (224 : Int) ≤ (s[0].toNat : Int) := by omega
  have hq2 : (s[0].toNat : Int) < 240 := by omega
  have HG := Lib.hid (And.intro g1 g2)
  clear hb0 g1 g2
  by_cases hn : s.size < 3
  · have HR := Lib.hid (rune3_bad HG.out (j := s.size) (by omega) (by omega) (fun hc => by have := hc.1; omega))
    go_enter Tryz.func91, Tryz.ntmps91
    go_wp2
    go_ret2
    rw [HR.out]
    exact ⟨rfl, rfl⟩
  · have HV1 := Lib.hid (show vK s 224 1 = (s[0].toNat : Int) - 224 by simp only [vK]; rw [HB0.out]; omega)
    go_enter Tryz.func91, Tryz.ntmps91
    go_wp2
    go_loop [4, 7] (fun c i => ∃ k : Nat, 1 ≤ k ∧ k ≤ 3 ∧ i = .int .i64 (k : Nat) ∧ c = .int .i64 (vK s 224 k) ∧ 0 ≤ vK s 224 k ∧ vK s 224 k < 64 ^ k ∧ ∀ j, 1 ≤ j → j < k → contB s j) (fun _ i => 3 - (intOf i).toNat)
    case atStart => exact ⟨1, Nat.le_refl _, by omega, rfl, by rw [HV1.out], by rw [HV1.out]; omega, by rw [HV1.out]; omega, fun j a b => by omega⟩
    case round =>
      obtain ⟨k, hk1, hk2, rfl, rfl, hv1, hv2, hc⟩ := hrel
      have HC := Lib.hid hc
      clear hc
      by_cases hlt : k < 3
      · have hks : k < s.size := by omega
        have hbk := bAt_get s k hks
        have HBK := Lib.hid hbk
        have hstep : vK s 224 (k + 1) = 64 * vK s 224 k + (s[k].toNat : Int) - 128 := by
          obtain ⟨j, rfl⟩ : ∃ j, k = j + 1 := ⟨k - 1, by omega⟩
          rw [hbk]; rfl
        have hp : (64 : Int) ^ (k + 1) = 64 * 64 ^ k := by rw [Int.pow_succ]; omega
        have hp2 : (64 : Int) ^ k ≤ 16777216 := by
          have : k = 1 ∨ k = 2 ∨ k = 3 := by omega
          rcases this with rfl | rfl | rfl <;> decide
        have hbad : (s[k].toNat < 128 ∨ 191 < s[k].toNat) → runeI s = (-1, 1) := fun hx => rune3_bad HG.out hk1 hlt (fun hcc => by obtain ⟨_, a, b⟩ := hcc; omega)
        have hgood : ¬ (s[k].toNat < 128 ∨ 191 < s[k].toNat) → ∀ j, 1 ≤ j → j < k + 1 → contB s j := fun hx j a b => by
          by_cases e : j = k
          · subst e; exact ⟨hks, by omega, by omega⟩
          · exact HC.out j a (by omega)
        have hvn : 128 ≤ s[k].toNat → s[k].toNat ≤ 191 → 0 ≤ vK s 224 (k + 1) ∧ vK s 224 (k + 1) < 64 ^ (k + 1) := fun a b => by rw [hstep, hp]; omega
        have hub := s[k].toNat_lt
        have HS := Lib.hid hstep
        have HBAD := Lib.hid hbad
        have HGOOD := Lib.hid hgood
        have HVN := Lib.hid hvn
        have hvb : vK s 224 k ≤ 16777216 := by omega
        clear hstep hp hp2 hbad hgood hvn hv2 HBK hbk
        generalize vK s 224 k = vk at *
        rcases (by omega : (s[k].toNat : Int) < 128 ∨ (128 ≤ (s[k].toNat : Int) ∧ 191 < (s[k].toNat : Int)) ∨ (128 ≤ (s[k].toNat : Int) ∧ (s[k].toNat : Int) ≤ 191)) with q1 | ⟨q1, q2⟩ | ⟨q1, q2⟩
        · have HR := Lib.hid (HBAD.out (by omega))
          clear HBAD HGOOD HVN
          go_wp2
          go_ret2
          rw [HR.out]
          exact ⟨rfl, rfl⟩
        · have HR := Lib.hid (HBAD.out (by omega))
          clear HBAD HGOOD HVN
          go_wp2
          go_ret2
          rw [HR.out]
          exact ⟨rfl, rfl⟩
        · have HR := Lib.hid (HGOOD.out (by omega))
          have HQ := Lib.hid (HVN.out (by omega) (by omega))
          clear HBAD HGOOD HVN
          go_wp2
          go_round
          case rel => exact ⟨k + 1, by omega, by omega, by go_num, by rw [HS.out], HQ.out.1, HQ.out.2, HR.out⟩
          case measure => simp [intOf]; omega
      · obtain rfl : k = 3 := by omega
        have HV := Lib.hid (rune3_val HG.out HC.out)
        generalize vK s 224 3 = v at *
        clear hlt hv2
        rcases (by omega : v < 2048 ∨ (2048 ≤ v ∧ 1114111 < v) ∨ (2048 ≤ v ∧ v ≤ 1114111 ∧ 55296 ≤ v ∧ v ≤ 57343) ∨ (2048 ≤ v ∧ v ≤ 1114111 ∧ v < 55296) ∨ (2048 ≤ v ∧ v ≤ 1114111 ∧ 55296 ≤ v ∧ 57343 < v)) with q | ⟨q1, q2⟩ | ⟨q1, q2, q3, q4⟩ | ⟨q1, q2, q3⟩ | ⟨q1, q2, q3, q4⟩
        · have HR := Lib.hid (HV.out.trans (if_pos (by omega)))
          go_wp2
          go_ret2
          rw [HR.out]
          exact ⟨rfl, rfl⟩
        · have HR := Lib.hid (HV.out.trans (if_pos (by omega)))
          go_wp2
          go_ret2
          rw [HR.out]
          exact ⟨rfl, rfl⟩
        · have HR := Lib.hid (HV.out.trans (if_pos (by omega)))
          go_wp2
          go_ret2
          rw [HR.out]
          exact ⟨rfl, rfl⟩
        · first
            | (exfalso; omega)
            | (have HR := Lib.hid (HV.out.trans (if_neg (by omega)))
               go_wp2
               go_ret2
               rw [HR.out]
               exact ⟨rfl, rfl⟩)
        · have HR := Lib.hid (HV.out.trans (if_neg (by omega)))
          go_wp2
          go_ret2
          rw [HR.out]
          exact ⟨rfl, rfl⟩

theorem rune4_bad {s : ByteArray} (h : 240 ≤ bAt s 0 ∧ bAt s 0 < 248) {j : Nat} (h1 : 1 ≤ j) (h2 : j < 4) (hb : ¬ contB s j) : runeI s = (-1, 1) := by
  refine runeI_bad ?_
  have hj : j = 1 ∨ j = 2 ∨ j = 3 := by omega
  rw [decode_eq, if_neg (by omega)]
  rw [if_neg (by omega), if_neg (by omega), if_neg (fun hx => by rcases hj with rfl | rfl | rfl <;> simp_all)]
theorem rune4_val {s : ByteArray} (h : 240 ≤ bAt s 0 ∧ bAt s 0 < 248) (hc : ∀ j, 1 ≤ j → j < 4 → contB s j) : runeI s = if vK s 240 4 < 65536 ∨ 1114111 < vK s 240 4 ∨ (55296 ≤ vK s 240 4 ∧ vK s 240 4 ≤ 57343) then (-1, 1) else (vK s 240 4, 4) := by
  have c1 := hc 1 (by omega) (by omega)
  have c2 := hc 2 (by omega) (by omega)
  have c3 := hc 3 (by omega) (by omega)
  have hv := v4_of h c1 c2 c3
  rw [hv]
  have e := decode_eq s
  rw [if_neg (by omega), if_neg (by omega), if_neg (by omega), if_pos ⟨by omega, c1, c2, c3⟩] at e
  generalize (bAt s 0 % 8) * 262144 + (bAt s 1 % 64) * 4096 + (bAt s 2 % 64) * 64 + bAt s 3 % 64 = v at *
  split
  · next hx =>
    refine runeI_bad ?_
    rw [e, if_neg ?_]
    rw [valid_iff]; omega
  · next hx =>
    have e2 : Utf8.decode s 0 = (v, 4) := by
      rw [e, if_pos ?_]
      rw [valid_iff]; omega
    unfold runeI
    rw [e2, if_neg (by simp)]
set_option maxRecDepth 100000 in
set_option maxHeartbeats 1600000 in
theorem rune4_any (s : ByteArray) (w : World) (hs : s.size ≤ 1099511627776) (h0 : 0 < s.size) (h : 240 ≤ bAt s 0 ∧ bAt s 0 < 248) :
    Calls Tryz.prog 91 #[.string s] w fun e w' => e = .returned (.tuple #[.int .i64 (runeI s).1, .int .i64 (runeI s).2]) ∧ w = w' := by
  have hb0 := bAt_get s 0 h0
  have HB0 := Lib.hid hb0
  obtain ⟨g1, g2⟩ := h
  have hq1 : (240 : Int) ≤ (s[0].toNat : Int) := by omega
  have hq2 : (s[0].toNat : Int) < 248 := by omega
  have HG := Lib.hid (And.intro g1 g2)
  clear hb0 g1 g2
  by_cases hn : s.size < 4
  · have HR := Lib.hid (rune4_bad HG.out (j := s.size) (by omega) (by omega) (fun hc => by have := hc.1; omega))
    go_enter Tryz.func91, Tryz.ntmps91
    go_wp2
    go_ret2
    rw [HR.out]
    exact ⟨rfl, rfl⟩
  · have HV1 := Lib.hid (show vK s 240 1 = (s[0].toNat : Int) - 240 by simp only [vK]; rw [HB0.out]; omega)
    go_enter Tryz.func91, Tryz.ntmps91
    go_wp2
    go_loop [4, 7] (fun c i => ∃ k : Nat, 1 ≤ k ∧ k ≤ 4 ∧ i = .int .i64 (k : Nat) ∧ c = .int .i64 (vK s 240 k) ∧ 0 ≤ vK s 240 k ∧ vK s 240 k < 64 ^ k ∧ ∀ j, 1 ≤ j → j < k → contB s j) (fun _ i => 4 - (intOf i).toNat)
    case atStart => exact ⟨1, Nat.le_refl _, by omega, rfl, by rw [HV1.out], by rw [HV1.out]; omega, by rw [HV1.out]; omega, fun j a b => by omega⟩
    case round =>
      obtain ⟨k, hk1, hk2, rfl, rfl, hv1, hv2, hc⟩ := hrel
      have HC := Lib.hid hc
      clear hc
      by_cases hlt : k < 4
      · have hks : k < s.size := by omega
        have hbk := bAt_get s k hks
        have HBK := Lib.hid hbk
        have hstep : vK s 240 (k + 1) = 64 * vK s 240 k + (s[k].toNat : Int) - 128 := by
          obtain ⟨j, rfl⟩ : ∃ j, k = j + 1 := ⟨k - 1, by omega⟩
          rw [hbk]; rfl
        have hp : (64 : Int) ^ (k + 1) = 64 * 64 ^ k := by rw [Int.pow_succ]; omega
        have hp2 : (64 : Int) ^ k ≤ 16777216 := by
          have : k = 1 ∨ k = 2 ∨ k = 3 := by omega
          rcases this with rfl | rfl | rfl <;> decide
        have hbad : (s[k].toNat < 128 ∨ 191 < s[k].toNat) → runeI s = (-1, 1) := fun hx => rune4_bad HG.out hk1 hlt (fun hcc => by obtain ⟨_, a, b⟩ := hcc; omega)
        have hgood : ¬ (s[k].toNat < 128 ∨ 191 < s[k].toNat) → ∀ j, 1 ≤ j → j < k + 1 → contB s j := fun hx j a b => by
          by_cases e : j = k
          · subst e; exact ⟨hks, by omega, by omega⟩
          · exact HC.out j a (by omega)
        have hvn : 128 ≤ s[k].toNat → s[k].toNat ≤ 191 → 0 ≤ vK s 240 (k + 1) ∧ vK s 240 (k + 1) < 64 ^ (k + 1) := fun a b => by rw [hstep, hp]; omega
        have hub := s[k].toNat_lt
        have HS := Lib.hid hstep
        have HBAD := Lib.hid hbad
        have HGOOD := Lib.hid hgood
        have HVN := Lib.hid hvn
        have hvb : vK s 240 k ≤ 16777216 := by omega
        clear hstep hp hp2 hbad hgood hvn hv2 HBK hbk
        generalize vK s 240 k = vk at *
        rcases (by omega : (s[k].toNat : Int) < 128 ∨ (128 ≤ (s[k].toNat : Int) ∧ 191 < (s[k].toNat : Int)) ∨ (128 ≤ (s[k].toNat : Int) ∧ (s[k].toNat : Int) ≤ 191)) with q1 | ⟨q1, q2⟩ | ⟨q1, q2⟩
        · have HR := Lib.hid (HBAD.out (by omega))
          clear HBAD HGOOD HVN
          go_wp2
          go_ret2
          rw [HR.out]
          exact ⟨rfl, rfl⟩
        · have HR := Lib.hid (HBAD.out (by omega))
          clear HBAD HGOOD HVN
          go_wp2
          go_ret2
          rw [HR.out]
          exact ⟨rfl, rfl⟩
        · have HR := Lib.hid (HGOOD.out (by omega))
          have HQ := Lib.hid (HVN.out (by omega) (by omega))
          clear HBAD HGOOD HVN
          go_wp2
          go_round
          case rel => exact ⟨k + 1, by omega, by omega, by go_num, by rw [HS.out], HQ.out.1, HQ.out.2, HR.out⟩
          case measure => simp [intOf]; omega
      · obtain rfl : k = 4 := by omega
        have HV := Lib.hid (rune4_val HG.out HC.out)
        generalize vK s 240 4 = v at *
        clear hlt hv2
        rcases (by omega : v < 65536 ∨ (65536 ≤ v ∧ 1114111 < v) ∨ (65536 ≤ v ∧ v ≤ 1114111 ∧ 55296 ≤ v ∧ v ≤ 57343) ∨ (65536 ≤ v ∧ v ≤ 1114111 ∧ v < 55296) ∨ (65536 ≤ v ∧ v ≤ 1114111 ∧ 55296 ≤ v ∧ 57343 < v)) with q | ⟨q1, q2⟩ | ⟨q1, q2, q3, q4⟩ | ⟨q1, q2, q3⟩ | ⟨q1, q2, q3, q4⟩
        · have HR := Lib.hid (HV.out.trans (if_pos (by omega)))
          go_wp2
          go_ret2
          rw [HR.out]
          exact ⟨rfl, rfl⟩
        · have HR := Lib.hid (HV.out.trans (if_pos (by omega)))
          go_wp2
          go_ret2
          rw [HR.out]
          exact ⟨rfl, rfl⟩
        · have HR := Lib.hid (HV.out.trans (if_pos (by omega)))
          go_wp2
          go_ret2
          rw [HR.out]
          exact ⟨rfl, rfl⟩
        · first
            | (exfalso; omega)
            | (have HR := Lib.hid (HV.out.trans (if_neg (by omega)))
               go_wp2
               go_ret2
               rw [HR.out]
               exact ⟨rfl, rfl⟩)
        · have HR := Lib.hid (HV.out.trans (if_neg (by omega)))
          go_wp2
          go_ret2
          rw [HR.out]
          exact ⟨rfl, rfl⟩

set_option maxRecDepth 100000 in
set_option maxHeartbeats 800000 in
theorem rune_any (s : ByteArray) (w : World) (hs : s.size ≤ 1099511627776) (h0 : 0 < s.size) :
    Calls Tryz.prog 91 #[.string s] w fun e w' => e = .returned (.tuple #[.int .i64 (runeI s).1, .int .i64 (runeI s).2]) ∧ w = w' := by
  have hlt := bAt_lt s 0
  rcases (by omega : bAt s 0 < 128 ∨ ((128 ≤ bAt s 0 ∧ bAt s 0 < 192) ∨ 248 ≤ bAt s 0) ∨ (192 ≤ bAt s 0 ∧ bAt s 0 < 224) ∨ (224 ≤ bAt s 0 ∧ bAt s 0 < 240) ∨ (240 ≤ bAt s 0 ∧ bAt s 0 < 248)) with h | h | h | h | h
  · have HR := Lib.hid (runeI_one h)
    have HB := Lib.hid (bAt_get s 0 h0)
    have hq : (s[0].toNat : Int) < 128 := by rw [HB.out]; omega
    have HBI := Lib.hid (show (s[0].toNat : Int) = bAt s 0 by rw [HB.out])
    clear h hlt HB
    go_enter Tryz.func91, Tryz.ntmps91
    go_wp2
    go_ret2
    rw [HR.out]
    exact ⟨ret_two HBI.out rfl, rfl⟩
  · have HR := Lib.hid (runeI_none h)
    have HB := bAt_get s 0 h0
    rcases h with ⟨h1, h2⟩ | h
    · have hq1 : (128 : Int) ≤ (s[0].toNat : Int) := by omega
      have hq2 : (s[0].toNat : Int) < 192 := by omega
      clear h1 h2 hlt HB
      go_enter Tryz.func91, Tryz.ntmps91
      go_wp2
      go_ret2
      rw [HR.out]
      exact ⟨rfl, rfl⟩
    · have hq1 : (248 : Int) ≤ (s[0].toNat : Int) := by omega
      have hq2 : (s[0].toNat : Int) < 256 := by omega
      clear h hlt HB
      go_enter Tryz.func91, Tryz.ntmps91
      go_wp2
      go_ret2
      rw [HR.out]
      exact ⟨rfl, rfl⟩
  · exact rune2_any s w hs h0 h
  · exact rune3_any s w hs h0 h
  · exact rune4_any s w hs h0 h
end Go.Proofs.YtpeepdkeicgkiaaGreatDoor
