/- Plain: the table's sum is the rest of the division. -/
import Derived.Test.YtacifkdheeligaaCr
namespace Go.Proofs.Ytacifkdheeligaa
open Go.RowKit

/-- one step of the division -/
def polyBit (k : Nat) : Bool := (4374732215 : Nat).testBit (32 - k)
def elimStep (l : Nat → Bool) (i : Nat) : Nat → Bool := fun j => if l i && (decide (i ≤ j) && decide (j ≤ i + 32)) then xor (l j) (polyBit (j - i)) else l j
def elim (m : Nat → Bool) : Nat → Nat → Bool
  | 0 => m
  | i + 1 => elimStep (elim m i) i
/-- the text's bits -/
def msgBit (s : List UInt8) (i : Nat) : Bool := ((s[i / 8]?).getD 0).toNat.testBit (i % 8)
def turned (m : Nat → Bool) (i : Nat) : Bool := if i < 32 then !(m i) else m i

def half32 (c : BitVec 32) : BitVec 32 := (c >>> 1) ^^^ (if c.getLsbD 0 then 3988292384#32 else 0#32)
theorem half32_xor (a b : BitVec 32) : half32 (a ^^^ b) = half32 a ^^^ half32 b := by
  unfold half32
  have h : (if (a ^^^ b).getLsbD 0 then 3988292384#32 else 0#32) = (if a.getLsbD 0 then 3988292384#32 else 0#32) ^^^ (if b.getLsbD 0 then 3988292384#32 else 0#32) := by
    rw [BitVec.getLsbD_xor]
    cases a.getLsbD 0 <;> cases b.getLsbD 0 <;> simp
  rw [BitVec.ushiftRight_xor_distrib, h]
  ac_rfl

/-- bit by bit -/
def serial (m : Nat → Bool) : Nat → BitVec 32
  | 0 => BitVec.allOnes 32
  | i + 1 => half32 (serial m i ^^^ (if m i then 1#32 else 0#32))

def winN (l : Nat → Bool) (i : Nat) : (n : Nat) → BitVec n
  | 0 => BitVec.nil
  | n + 1 => BitVec.cons (l (i + n)) (winN l i n)
theorem winN_bit (l : Nat → Bool) (i n k : Nat) (h : k < n) : (winN l i n).getLsbD k = l (i + k) := by
  induction n with
  | zero => omega
  | succ n ih =>
    rw [winN, BitVec.getLsbD_cons]
    split
    · next e => rw [e]
    · next e => exact ih (by omega)
def window (l : Nat → Bool) (i : Nat) : BitVec 32 := winN l i 32
theorem window_bit (l : Nat → Bool) (i k : Nat) (h : k < 32) : (window l i).getLsbD k = l (i + k) := winN_bit l i 32 k h

theorem poly_bits (k : Nat) (h : k < 32) : polyBit (k + 1) = (3988292384#32).getLsbD k := by
  revert h; revert k; decide +kernel
theorem poly_bit0 : polyBit 0 = true := by decide +kernel

theorem elim_far (m : Nat → Bool) (i j : Nat) (h : i + 32 ≤ j) : elim m i j = m j := by
  induction i with
  | zero => rfl
  | succ i ih =>
    unfold elim elimStep
    rw [if_neg (by simp; omega), ih (by omega)]

theorem window_step (m : Nat → Bool) (i : Nat) : window (elim m (i + 1)) (i + 1) = half32 (window (elim m i) i) ^^^ (if m (i + 32) then 2147483648#32 else 0#32) := by
  apply BitVec.eq_of_getLsbD_eq
  intro k hk
  rw [window_bit _ _ _ hk]
  unfold half32
  rw [BitVec.getLsbD_xor, BitVec.getLsbD_xor, BitVec.getLsbD_ushiftRight, window_bit _ _ 0 (by decide)]
  have hfar := elim_far m i (i + 32) (Nat.le_refl _)
  have hst : elim m (i + 1) (i + 1 + k) = if elim m i i then xor (elim m i (i + 1 + k)) (polyBit (k + 1)) else elim m i (i + 1 + k) := by
    show elimStep (elim m i) i (i + 1 + k) = _
    unfold elimStep
    rw [show i + 1 + k - i = k + 1 by omega]
    simp only [show i ≤ i + 1 + k by omega, show i + 1 + k ≤ i + 32 by omega, decide_true, Bool.and_true]
  rw [hst, poly_bits k hk]
  by_cases h31 : k = 31
  · subst h31
    have e1 : (window (elim m i) i).getLsbD (1 + 31) = false := BitVec.getLsbD_of_ge _ _ (by decide)
    rw [e1, show i + 1 + 31 = i + 32 by omega, hfar]
    have e2 : (3988292384#32).getLsbD 31 = true := by decide
    have e3 : (2147483648#32).getLsbD 31 = true := by decide
    simp only [Nat.add_zero]
    cases elim m i i <;> cases m (i + 32) <;> simp [e2, e3]
  · have e1 : (window (elim m i) i).getLsbD (1 + k) = elim m i (i + (1 + k)) := window_bit _ _ _ (by omega)
    have e3 : (if m (i + 32) then 2147483648#32 else 0#32).getLsbD k = false := by
      split
      · have : ∀ k, k < 31 → (2147483648#32).getLsbD k = false := by decide
        exact this k (by omega)
      · simp
    rw [e1, e3, show i + (1 + k) = i + 1 + k by omega]
    simp only [Nat.add_zero]
    cases elim m i i <;> simp

/-- what is still to come in -/
theorem window_msg (m : Nat → Bool) (i : Nat) : half32 (window m i ^^^ (if m i then 1#32 else 0#32)) ^^^ (if m (i + 32) then 2147483648#32 else 0#32) = window m (i + 1) := by
  apply BitVec.eq_of_getLsbD_eq
  intro k hk
  have e0 : (window m i ^^^ (if m i then 1#32 else 0#32)).getLsbD 0 = false := by
    rw [BitVec.getLsbD_xor, window_bit _ _ _ (by decide)]
    cases h : m i <;> simp [h]
  unfold half32
  rw [e0]
  rw [BitVec.getLsbD_xor, BitVec.getLsbD_xor, BitVec.getLsbD_ushiftRight, BitVec.getLsbD_xor, window_bit _ _ _ hk]
  have e1 : (if m i then 1#32 else 0#32).getLsbD (1 + k) = false := by
    split <;> simp
  rw [e1]
  by_cases h31 : k = 31
  · subst h31
    have e2 : (window m i).getLsbD (1 + 31) = false := BitVec.getLsbD_of_ge _ _ (by decide)
    have e3 : (2147483648#32).getLsbD 31 = true := by decide
    rw [e2, show i + 1 + 31 = i + 32 by omega]
    cases m (i + 32) <;> simp [e3]
  · have e2 : (window m i).getLsbD (1 + k) = m (i + (1 + k)) := window_bit _ _ _ (by omega)
    have e3 : (if m (i + 32) then 2147483648#32 else 0#32).getLsbD k = false := by
      split
      · have : ∀ k, k < 31 → (2147483648#32).getLsbD k = false := by decide
        exact this k (by omega)
      · simp
    rw [e2, e3, show i + (1 + k) = i + 1 + k by omega]
    simp

theorem window_turned0 (m : Nat → Bool) : window (turned m) 0 = BitVec.allOnes 32 ^^^ window m 0 := by
  apply BitVec.eq_of_getLsbD_eq
  intro k hk
  rw [BitVec.getLsbD_xor, window_bit _ _ _ hk, window_bit _ _ _ hk, BitVec.getLsbD_allOnes]
  simp [turned, hk]

theorem window_serial (m : Nat → Bool) (i : Nat) : window (elim (turned m) i) i = serial m i ^^^ window m i := by
  induction i with
  | zero => exact window_turned0 m
  | succ i ih =>
    rw [window_step, ih]
    have ht : turned m (i + 32) = m (i + 32) := by unfold turned; rw [if_neg (by omega)]
    rw [ht]
    have h1 : serial m i ^^^ window m i = (serial m i ^^^ (if m i then 1#32 else 0#32)) ^^^ (window m i ^^^ (if m i then 1#32 else 0#32)) := by
      generalize (if m i then 1#32 else 0#32) = z
      rw [BitVec.xor_assoc, BitVec.xor_comm (window m i) z, ← BitVec.xor_assoc z, BitVec.xor_self, BitVec.zero_xor]
    rw [h1, half32_xor, BitVec.xor_assoc, window_msg]
    rfl

/-- by whole bytes -/
theorem half32_nat (c : BitVec 32) : (half32 c).toNat = crcHalf c.toNat := by
  unfold half32 crcHalf
  rw [BitVec.toNat_xor, BitVec.toNat_ushiftRight, Nat.shiftRight_eq_div_pow, Nat.pow_one]
  have h : c.getLsbD 0 = decide (c.toNat % 2 = 1) := by
    rw [BitVec.getLsbD, Nat.testBit_zero]
  rw [h]
  by_cases h2 : c.toNat % 2 = 1
  · simp [h2]
  · simp [h2]
def half8 (c : BitVec 32) : BitVec 32 := half32 (half32 (half32 (half32 (half32 (half32 (half32 (half32 c)))))))
theorem half8_nat (c : BitVec 32) : (half8 c).toNat = crcEntry c.toNat := by
  unfold half8 crcEntry
  simp only [half32_nat]
theorem half8_xor (a b : BitVec 32) : half8 (a ^^^ b) = half8 a ^^^ half8 b := by
  unfold half8; simp only [half32_xor]
theorem half32_even (c : BitVec 32) (h : c.getLsbD 0 = false) : half32 c = c >>> 1 := by
  unfold half32; rw [h]; simp
theorem half8_high (c : BitVec 32) (h : c.toNat % 256 = 0) : half8 c = c >>> 8 := by
  have hb : ∀ k, k < 8 → c.getLsbD k = false := by
    intro k hk
    rw [BitVec.getLsbD]
    have : (c.toNat % 2 ^ 8).testBit k = c.toNat.testBit k := by rw [Nat.testBit_mod_two_pow]; simp [hk]
    rw [← this, show (2 ^ 8 : Nat) = 256 from rfl, h, Nat.zero_testBit]
  have hstep : ∀ k, k < 8 → half32 (c >>> k) = c >>> (k + 1) := by
    intro k hk
    rw [half32_even _ (by rw [BitVec.getLsbD_ushiftRight]; exact hb _ (by omega)), ← BitVec.shiftRight_add]
  unfold half8
  have h0 : half32 c = c >>> 1 := by have := hstep 0 (by decide); simpa using this
  rw [h0, hstep 1 (by decide), hstep 2 (by decide), hstep 3 (by decide), hstep 4 (by decide), hstep 5 (by decide), hstep 6 (by decide), hstep 7 (by decide)]
theorem crcUp_half (c : BitVec 32) (b : UInt8) : (half8 (c ^^^ BitVec.ofNat 32 b.toNat)).toNat = crcUp c.toNat b := by
  have hb := b.toNat_lt
  have hlo : ((BitVec.ofNat 32 (c.toNat % 256)) ^^^ BitVec.ofNat 32 b.toNat).toNat = c.toNat % 256 ^^^ b.toNat := by
    rw [BitVec.toNat_xor, BitVec.toNat_ofNat, BitVec.toNat_ofNat, Nat.mod_eq_of_lt (a := c.toNat % 256) (by omega), Nat.mod_eq_of_lt (a := b.toNat) (by omega)]
  have hhi : (c ^^^ BitVec.ofNat 32 (c.toNat % 256)).toNat % 256 = 0 := by
    rw [BitVec.toNat_xor, BitVec.toNat_ofNat, Nat.mod_eq_of_lt (a := c.toNat % 256) (by omega), show 256 = 2 ^ 8 from rfl, Nat.xor_mod_two_pow, Nat.mod_mod, Nat.xor_self]
  have hsplit : c ^^^ BitVec.ofNat 32 b.toNat = (BitVec.ofNat 32 (c.toNat % 256) ^^^ BitVec.ofNat 32 b.toNat) ^^^ (c ^^^ BitVec.ofNat 32 (c.toNat % 256)) := by
    generalize BitVec.ofNat 32 (c.toNat % 256) = z
    rw [BitVec.xor_comm z, BitVec.xor_assoc, BitVec.xor_comm c z, ← BitVec.xor_assoc z, BitVec.xor_self, BitVec.zero_xor, BitVec.xor_comm]
  rw [hsplit, half8_xor, BitVec.toNat_xor, half8_nat, hlo, half8_high _ hhi]
  unfold crcUp
  congr 1
  rw [BitVec.toNat_ushiftRight, BitVec.toNat_xor, BitVec.toNat_ofNat, Nat.mod_eq_of_lt (a := c.toNat % 256) (by have := c.isLt; omega), Nat.shiftRight_eq_div_pow]
  apply Nat.eq_of_testBit_eq
  intro i
  rw [Nat.testBit_div_two_pow, Nat.testBit_xor, show c.toNat / 256 = c.toNat / 2 ^ 8 from rfl, Nat.testBit_div_two_pow, show c.toNat % 256 = c.toNat % 2 ^ 8 from rfl, Nat.testBit_mod_two_pow]
  have : decide (i + 8 < 8) = false := by simp
  rw [this, Bool.false_and, Bool.xor_false]

def halfs : Nat → BitVec 32 → BitVec 32
  | 0, c => c
  | k + 1, c => half32 (halfs k c)
/-- eight bits are a byte -/
theorem serial_byte (m : Nat → Bool) (i : Nat) (b : UInt8) (h : ∀ k, k < 8 → m (i + k) = b.toNat.testBit k) : serial m (i + 8) = half8 (serial m i ^^^ BitVec.ofNat 32 b.toNat) := by
  have bit : ∀ k, k < 8 → (if m (i + k) then 1#32 else 0#32) = BitVec.ofNat 32 (b.toNat / 2 ^ k % 2) := by
    intro k hk
    rw [h k hk, Nat.testBit_eq_decide_div_mod_eq]
    rcases Nat.mod_two_eq_zero_or_one (b.toNat / 2 ^ k) with h2 | h2 <;> simp [h2]
  have step : ∀ (k : Nat) (x : BitVec 32), half32 (BitVec.ofNat 32 (b.toNat / 2 ^ k) ^^^ BitVec.ofNat 32 (b.toNat / 2 ^ k % 2) ^^^ x) = BitVec.ofNat 32 (b.toNat / 2 ^ (k + 1)) ^^^ half32 x := by
    intro k x
    rw [half32_xor]
    congr 1
    have hb := b.toNat_lt
    have hd : b.toNat / 2 ^ k < 256 := Nat.lt_of_le_of_lt (Nat.div_le_self _ _) hb
    rw [Nat.pow_succ, ← Nat.div_div_eq_div_mul]
    generalize b.toNat / 2 ^ k = y at hd
    revert hd; revert y; decide +kernel
  generalize hz : serial m i = z
  have e : ∀ (k : Nat), k ≤ 8 → serial m (i + k) ^^^ BitVec.ofNat 32 (b.toNat / 2 ^ k) = halfs k (z ^^^ BitVec.ofNat 32 b.toNat) := by
    intro k
    induction k with
    | zero => intro _; simp [hz, halfs]
    | succ k ih =>
      intro hk
      have := ih (by omega)
      show half32 (serial m (i + k) ^^^ (if m (i + k) then 1#32 else 0#32)) ^^^ _ = half32 _
      rw [← this, bit k (by omega)]
      have s1 := step k (serial m (i + k) ^^^ BitVec.ofNat 32 (b.toNat / 2 ^ k % 2))
      have s2 : BitVec.ofNat 32 (b.toNat / 2 ^ k) ^^^ BitVec.ofNat 32 (b.toNat / 2 ^ k % 2) ^^^ (serial m (i + k) ^^^ BitVec.ofNat 32 (b.toNat / 2 ^ k % 2)) = serial m (i + k) ^^^ BitVec.ofNat 32 (b.toNat / 2 ^ k) := by
        generalize BitVec.ofNat 32 (b.toNat / 2 ^ k % 2) = q
        generalize BitVec.ofNat 32 (b.toNat / 2 ^ k) = p
        generalize serial m (i + k) = r
        rw [BitVec.xor_comm r q, ← BitVec.xor_assoc, BitVec.xor_assoc p q q, BitVec.xor_self, BitVec.xor_zero, BitVec.xor_comm]
      rw [s2] at s1
      rw [s1, BitVec.xor_comm]
  have e8 := e 8 (Nat.le_refl _)
  have h8 : b.toNat / 2 ^ 8 = 0 := Nat.div_eq_of_lt b.toNat_lt
  rw [h8, show BitVec.ofNat 32 0 = 0#32 from rfl, BitVec.xor_zero] at e8
  rw [e8]; rfl

theorem serial_bytes (s : List UInt8) (n : Nat) (h : n ≤ s.length) : (serial (msgBit s) (8 * n)).toNat = (s.take n).foldl crcUp 4294967295 := by
  induction n with
  | zero => simp [serial]
  | succ n ih =>
    have hn : n < s.length := h
    rw [List.take_succ_eq_append_getElem hn, List.foldl_append, ← ih (by omega), show 8 * (n + 1) = 8 * n + 8 by omega,
      serial_byte (msgBit s) (8 * n) s[n] (fun k hk => ?_), crcUp_half]
    · rfl
    · unfold msgBit
      rw [show (8 * n + k) / 8 = n by omega, show (8 * n + k) % 8 = k by omega, List.getElem?_eq_getElem hn]; rfl

theorem msgBit_end (s : List UInt8) (i : Nat) (h : 8 * s.length ≤ i) : msgBit s i = false := by
  unfold msgBit; rw [List.getElem?_eq_none (by omega)]; simp

/-- what the division leaves, turned -/
theorem rest_crc (s : List UInt8) : (~~~ (window (elim (turned (msgBit s)) (8 * s.length)) (8 * s.length))).toNat = crcL 0 s := by
  have hz : window (msgBit s) (8 * s.length) = 0#32 := by
    apply BitVec.eq_of_getLsbD_eq
    intro k hk
    rw [window_bit _ _ _ hk, msgBit_end _ _ (by omega)]; simp
  rw [window_serial, hz, BitVec.xor_zero, BitVec.toNat_not, serial_bytes s s.length (Nat.le_refl _), List.take_length]
  unfold crcL
  rfl
end Go.Proofs.Ytacifkdheeligaa
