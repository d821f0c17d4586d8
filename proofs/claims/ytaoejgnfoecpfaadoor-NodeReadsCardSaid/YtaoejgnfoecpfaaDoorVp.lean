/- Numbers in groups of seven bits: the plain law. -/
import Derived.Test.YtaoejgnfoecpfaaDoorKit
namespace Go.Proofs.YtaoejgnfoecpfaaDoor
open Go.RowKit

/-- a number in groups of seven bits, the lowest first -/
def varF : Nat → Nat → List UInt8
  | 0, x => [UInt8.ofNat (x % 128)]
  | f + 1, x => if x < 128 then [UInt8.ofNat x] else UInt8.ofNat (x % 128 + 128) :: varF f (x / 128)
def varL (x : Nat) : List UInt8 := varF 10 x
theorem varF_len : ∀ f x, 1 ≤ (varF f x).length ∧ (varF f x).length ≤ f + 1
  | 0, x => by simp [varF]
  | f + 1, x => by
    have := varF_len f (x / 128)
    simp only [varF]
    split <;> simp <;> omega
theorem pow128 (f : Nat) : 128 ^ (f + 1) = 128 * 128 ^ f := by rw [Nat.pow_succ, Nat.mul_comm]
theorem varF_fuel : ∀ f g x, x < 128 ^ (f + 1) → x < 128 ^ (g + 1) → varF f x = varF g x
  | 0, 0, x, _, _ => rfl
  | 0, g + 1, x, h, _ => by
    have h1 : x < 128 := by simpa using h
    simp only [varF]
    rw [if_pos h1, Nat.mod_eq_of_lt h1]
  | f + 1, 0, x, _, h => by
    have h1 : x < 128 := by simpa using h
    simp only [varF]
    rw [if_pos h1, Nat.mod_eq_of_lt h1]
  | f + 1, g + 1, x, h1, h2 => by
    simp only [varF]
    split
    · rfl
    · rw [varF_fuel f g (x / 128)]
      · rw [Nat.div_lt_iff_lt_mul (by decide), Nat.mul_comm, ← pow128]; exact h1
      · rw [Nat.div_lt_iff_lt_mul (by decide), Nat.mul_comm, ← pow128]; exact h2
theorem varF_small {f x : Nat} (h : x < 128) : varF f x = [UInt8.ofNat x] := by
  cases f with
  | zero => simp only [varF]; rw [Nat.mod_eq_of_lt h]
  | succ f => simp only [varF]; rw [if_pos h]
theorem varF_great {f x : Nat} (h : ¬ x < 128) : varF (f + 1) x = UInt8.ofNat (x % 128 + 128) :: varF f (x / 128) := by
  simp only [varF]; rw [if_neg h]

/-- the number at the front -/
def unv : Nat → Nat → Nat → List UInt8 → Nat × Nat
  | 0, _, _, _ => (0, 0)
  | _ + 1, _, _, [] => (0, 0)
  | f + 1, i, a, c :: r => if (i = 9 ∧ 1 < c.toNat) ∨ (0 < i ∧ c.toNat = 0) then (0, 0) else if c.toNat < 128 then (a + c.toNat * 128 ^ i, i + 1) else unv f (i + 1) (a + c.toNat % 128 * 128 ^ i) r
def unvarL (l : List UInt8) : Nat × Nat := unv 10 0 0 l

theorem u8_small {x : Nat} (h : x < 256) : (UInt8.ofNat x).toNat = x := by
  simp only [UInt8.toNat_ofNat']
  exact Nat.mod_eq_of_lt h
/-- 2 ^ (64 - 7 * i) -/
def room : Nat → Nat
  | 0 => 18446744073709551616
  | i + 1 => room i / 128
theorem room9 : room 9 = 2 := by decide
theorem room_le : ∀ i, i ≤ 9 → 128 ^ i * room i ≤ 18446744073709551616 := by decide
theorem room_pos : ∀ i, i ≤ 9 → 1 ≤ room i := by decide
theorem room_succ : ∀ i, i < 9 → room i = 128 * room (i + 1) := by decide
theorem mul_step (y i : Nat) : y % 128 * 128 ^ i + y / 128 * 128 ^ (i + 1) = y * 128 ^ i := by
  have h := Nat.div_add_mod y 128
  rw [pow128]
  have e : y / 128 * (128 * 128 ^ i) = 128 * (y / 128) * 128 ^ i := by
    rw [← Nat.mul_assoc, Nat.mul_comm (y / 128) 128]
  rw [e, ← Nat.add_mul, Nat.add_comm, h]
theorem room_div {i y : Nat} (hi : i < 9) (h : y < room i) : y / 128 < room (i + 1) := by
  have := room_succ i hi
  omega
/-- what was written is read -/
theorem unv_var : ∀ (f i a y : Nat) (r : List UInt8), i + f = 9 → y < room i → (0 < i → y ≠ 0) → unv (f + 1) i a (varF f y ++ r) = (a + y * 128 ^ i, i + (varF f y).length)
  | 0, i, a, y, r, hi, hy, h0 => by
    obtain rfl : i = 9 := by omega
    have hy2 : y < 2 := by rw [room9] at hy; exact hy
    have hc := u8_small (x := y) (by omega)
    rw [varF_small (by omega)]
    simp only [List.cons_append, List.nil_append, unv]
    rw [hc, if_neg (by omega), if_pos (by omega)]
    rfl
  | f + 1, i, a, y, r, hi, hy, h0 => by
    by_cases h : y < 128
    · have hc := u8_small (x := y) (by omega)
      rw [varF_small h]
      simp only [List.cons_append, List.nil_append, unv]
      rw [hc, if_neg (by omega), if_pos h]
      rfl
    · have hc := u8_small (x := y % 128 + 128) (by omega)
      rw [varF_great h]
      simp only [List.cons_append]
      rw [unv, hc, if_neg (by omega), if_neg (by omega)]
      rw [unv_var f (i + 1) _ (y / 128) r (by omega) (room_div (by omega) hy) (by omega)]
      have := mul_step y i
      rw [show (y % 128 + 128) % 128 = y % 128 by omega, Nat.add_assoc, this, List.length_cons]
      congr 1
      omega
theorem room10 : (18446744073709551616 : Nat) < 128 ^ 10 := by decide
theorem varL_9 {x : Nat} (h : x < 18446744073709551616) : varL x = varF 9 x := varF_fuel 10 9 x (Nat.lt_trans h (by decide)) (Nat.lt_trans h room10)
theorem unvar_var (x : Nat) (r : List UInt8) (h : x < 18446744073709551616) : unvarL (varL x ++ r) = (x, (varL x).length) := by
  have := unv_var 9 0 0 x r rfl h (by omega)
  rw [varL_9 h]
  unfold unvarL
  rw [this]
  simp
/-- what was read was written so -/
theorem unv_back : ∀ (f i a : Nat) (l : List UInt8) (x n : Nat), i + f = 9 → unv (f + 1) i a l = (x, n) → n ≠ 0 → ∃ y, x = a + y * 128 ^ i ∧ y < room i ∧ n = i + (varF f y).length ∧ ∃ r, l = varF f y ++ r
  | f, i, a, [], x, n, _, h, hn => by
    simp only [unv, Prod.mk.injEq] at h
    exact absurd h.2.symm hn
  | f, i, a, c :: r, x, n, hi, h, hn => by
    simp only [unv] at h
    split at h
    · simp only [Prod.mk.injEq] at h; exact absurd h.2.symm hn
    · next g =>
      have hc2 : UInt8.ofNat c.toNat = c := by simp
      split at h
      · next hc =>
        simp only [Prod.mk.injEq] at h
        refine ⟨c.toNat, h.1.symm, ?_, by rw [varF_small hc]; exact h.2.symm, r, by rw [varF_small hc, hc2]; rfl⟩
        by_cases h9 : i = 9
        · subst h9; rw [room9]; omega
        · have := room_succ i (by omega)
          have := room_pos (i + 1) (by omega)
          omega
      · next hc =>
        cases f with
        | zero =>
          have h9 : i = 9 := by omega
          exact absurd (Or.inl ⟨h9, by omega⟩) g
        | succ f =>
          obtain ⟨y, e1, e2, e3, t, e4⟩ := unv_back f (i + 1) _ r x n (by omega) h hn
          have hlt := c.toNat_lt
          have hr := room_succ i (by omega)
          have hy0 : y ≠ 0 := by
            intro e
            subst e
            rw [varF_small (by decide)] at e4 e3
            subst e4
            -- the group behind would be a nought
            cases f with
            | zero => simp [unv] at h; exact hn h.2.symm
            | succ f => simp [unv] at h; exact hn h.2.symm
          have hd : (c.toNat % 128 + 128 * y) / 128 = y := by omega
          have hm : (c.toNat % 128 + 128 * y) % 128 = c.toNat % 128 := by omega
          refine ⟨c.toNat % 128 + 128 * y, ?_, by omega, ?_, t, ?_⟩
          · have := mul_step (c.toNat % 128 + 128 * y) i
            rw [hd, hm] at this
            rw [e1, ← this, Nat.add_assoc]
          · rw [varF_great (by omega), hd, List.length_cons, e3]; omega
          · rw [varF_great (by omega), hd, hm, e4, show c.toNat % 128 + 128 = c.toNat by omega, hc2]; rfl
theorem unvar_back {l : List UInt8} {x n : Nat} (h : unvarL l = (x, n)) (hn : n ≠ 0) : x < 18446744073709551616 ∧ n = (varL x).length ∧ l.take n = varL x ∧ n ≤ l.length ∧ n ≤ 10 := by
  obtain ⟨y, e1, e2, e3, r, e4⟩ := unv_back 9 0 0 l x n rfl h hn
  obtain rfl : x = y := by omega
  have hv := varL_9 (x := x) e2
  rw [← hv] at e3 e4
  have := varF_len 9 x
  rw [← hv] at this
  refine ⟨e2, by omega, ?_, by rw [e4]; simp; omega, by omega⟩
  rw [e4, e3, Nat.zero_add, List.take_left]
theorem unvar_le (l : List UInt8) : (unvarL l).2 ≤ l.length ∧ (unvarL l).2 ≤ 10 ∧ (unvarL l).1 < 18446744073709551616 := by
  by_cases h : (unvarL l).2 = 0
  · refine ⟨by omega, by omega, ?_⟩
    have key : ∀ f i a (l : List UInt8), (unv f i a l).2 = 0 → (unv f i a l).1 = 0 := by
      intro f
      induction f with
      | zero => intro i a l _; rfl
      | succ f ih =>
        intro i a l h
        cases l with
        | nil => rfl
        | cons c r =>
          simp only [unv] at h ⊢
          split
          · rfl
          · next g =>
            rw [if_neg g] at h
            split
            · next hc => rw [if_pos hc] at h; simp at h
            · next hc => rw [if_neg hc] at h; exact ih _ _ _ h
    have e : (unvarL l).1 = 0 := key _ _ _ _ h
    rw [e]; decide
  · have := unvar_back (l := l) rfl h
    exact ⟨this.2.2.2.1, this.2.2.2.2, this.1⟩

/-- the sum of groups -/
def sumV : List UInt8 → Nat
  | [] => 0
  | c :: r => c.toNat % 128 + 128 * sumV r
theorem sumV_snoc (l : List UInt8) (c : UInt8) : sumV (l ++ [c]) = sumV l + c.toNat % 128 * 128 ^ l.length := by
  induction l with
  | nil => simp [sumV]
  | cons d r ih =>
    simp only [List.cons_append, sumV, List.length_cons]
    rw [ih, Nat.mul_add, pow128, Nat.add_assoc]
    congr 2
    rw [← Nat.mul_assoc, ← Nat.mul_assoc, Nat.mul_comm 128]
theorem sumV_var : ∀ f x, x < 128 ^ (f + 1) → sumV (varF f x) = x
  | 0, x, h => by
    have h1 : x < 128 := by simpa using h
    have := u8_small (x := x) (by omega)
    rw [varF_small h1]
    simp only [sumV]
    omega
  | f + 1, x, h => by
    by_cases h1 : x < 128
    · have := u8_small (x := x) (by omega)
      rw [varF_small h1]
      simp only [sumV]
      omega
    · have := u8_small (x := x % 128 + 128) (by omega)
      rw [varF_great h1]
      simp only [sumV]
      rw [sumV_var f (x / 128) (by rw [Nat.div_lt_iff_lt_mul (by decide), Nat.mul_comm, ← pow128]; exact h)]
      omega
/-- the document's test at a length -/
theorem try_hit {l : List UInt8} {n y : Nat} (hy : y < 18446744073709551616) (h : varL y = l.take n) (hn : n ≤ l.length) : unvarL l = (y, n) := by
  have e : l = varL y ++ l.drop n := by rw [h, List.take_append_drop]
  have := unvar_var y (l.drop n) hy
  rw [← e, h] at this
  rw [this]
  simp
  omega
theorem try_miss {l : List UInt8} {n : Nat} (h : varL (sumV (l.take n) % 18446744073709551616) ≠ l.take n) (hn : n ≠ 0) : (unvarL l).2 ≠ n := by
  intro e
  obtain ⟨h1, h2, h3, _⟩ := unvar_back (l := l) (x := (unvarL l).1) (n := n) (by rw [← e]) hn
  have hs : sumV (l.take n) = (unvarL l).1 := by
    rw [h3, varL_9 h1]
    exact sumV_var 9 _ (Nat.lt_trans h1 room10)
  rw [hs, Nat.mod_eq_of_lt h1, h3] at h
  exact h rfl
end Go.Proofs.YtaoejgnfoecpfaaDoor
