/- Days: plain law: dates never go back. Days: seconds, weeks, leap years, months' lengths, the date of a second. Days: a date as it is written. Days: Date walked. CellarerWhen: plain law. -/
import Derived.Test.YtpeepdkeicgkiaaGreatDoorZo1
import Derived.Test.YtpeepdkeicgkiaaGreatDoorZo4
import Derived.Test.YtpeepdkeicgkiaaGreatDoorZo19
import Derived.Maps.RangeWalk
import Derived.Maps.OwnOps
import Derived.Maps.Ext
import Derived.Lib.SlBytesConst
import Derived.Test.YtpeepdkeicgkiaaGreatDoorZo26
namespace Go.Proofs.YtpeepdkeicgkiaaGreatDoor
set_option linter.unusedVariables false
set_option linter.unusedSimpArgs false
set_option linter.unusedSectionVars false
open Go.RowKit

def leapN (y : Nat) : Bool := y % 4 == 0 && (y % 100 != 0 || y % 400 == 0)
def yearN (y : Nat) : Nat := if leapN y then 366 else 365
/-- a month's days, from 0 on -/
def monN (y m : Nat) : Nat := if m = 1 then (if leapN y then 29 else 28) else if m = 3 ∨ m = 5 ∨ m = 8 ∨ m = 10 then 30 else 31
/-- the days ahead of a year -/
def dby (y : Nat) : Nat := 365 * y + (y + 3) / 4 - (y + 99) / 100 + (y + 399) / 400
theorem leapN_iff (y : Nat) : leapN y = true ↔ y % 4 = 0 ∧ (y % 100 ≠ 0 ∨ y % 400 = 0) := by
  unfold leapN; simp
theorem dby_succ (y : Nat) : dby (y + 1) = dby y + yearN y := by
  unfold yearN
  by_cases h : leapN y = true
  · rw [if_pos h]
    have := (leapN_iff y).1 h
    unfold dby; omega
  · rw [if_neg h]
    have h' := fun a => h ((leapN_iff y).2 a)
    unfold dby
    by_cases h4 : y % 4 = 0
    · by_cases h100 : y % 100 = 0
      · by_cases h400 : y % 400 = 0
        · exact absurd ⟨h4, Or.inr h400⟩ h'
        · omega
      · exact absurd ⟨h4, Or.inl h100⟩ h'
    · omega
theorem dby_400 (y k : Nat) : dby (y + 400 * k) = dby y + 146097 * k := by unfold dby; omega
theorem leap_400 (y k : Nat) : leapN (y + 400 * k) = leapN y := by
  unfold leapN
  rw [show (y + 400 * k) % 4 = y % 4 by omega, show (y + 400 * k) % 100 = y % 100 by omega, show (y + 400 * k) % 400 = y % 400 by omega]
theorem yearN_pos (y : Nat) : 365 ≤ yearN y ∧ yearN y ≤ 366 := by unfold yearN; split <;> omega
theorem dby_mono {a b : Nat} (h : a ≤ b) : dby a ≤ dby b := by
  induction b with
  | zero => obtain rfl : a = 0 := by omega
            exact Nat.le_refl _
  | succ b ih =>
    by_cases e : a = b + 1
    · subst e; exact Nat.le_refl _
    · have := ih (by omega); rw [dby_succ]; omega
/-- the days of a year ahead of a month -/
def cumN (y : Nat) : Nat → Nat
  | 0 => 0
  | m + 1 => cumN y m + monN y m
theorem cum_mono (y : Nat) {a b : Nat} (h : a ≤ b) : cumN y a ≤ cumN y b := by
  induction b with
  | zero => obtain rfl : a = 0 := by omega
            exact Nat.le_refl _
  | succ b ih =>
    by_cases e : a = b + 1
    · subst e; exact Nat.le_refl _
    · have := ih (by omega); show _ ≤ cumN y b + _; omega
theorem cum_12 (y : Nat) : cumN y 12 = yearN y := by
  unfold yearN
  by_cases h : leapN y = true <;> simp [cumN, monN, h]
theorem monN_le (y m : Nat) : 28 ≤ monN y m ∧ monN y m ≤ 31 := by
  unfold monN; split <;> (try split) <;> omega
/-- year, month and day of a second, the latter two from 0 on -/
structure Dat (t y m d : Nat) : Prop where
  sum : dby y + cumN y m + d = t / 86400 + dby 1970
  lt : d < monN y m
  mon : m < 12
  old : 1970 ≤ y
theorem Dat.year {t y m d : Nat} (h : Dat t y m d) : t / 86400 + dby 1970 < dby (y + 1) := by
  have h1 := h.sum
  have h2 := h.lt
  have h3 := cum_mono y (a := m + 1) (b := 12) (by have := h.mon; omega)
  have h4 : cumN y (m + 1) = cumN y m + monN y m := rfl
  rw [dby_succ y, ← cum_12 y]; omega
theorem Dat.lim {t y m d : Nat} (h : Dat t y m d) (ht : t ≤ 253402300799) : y ≤ 9999 := by
  have h1 := h.sum
  by_cases hy : y ≤ 9999
  · exact hy
  · have h2 := dby_mono (a := 10000) (b := y) (by omega)
    have h3 : dby 10000 = 3652425 := by decide
    have h4 : dby 1970 = 719528 := by decide
    omega
/-- dates never go back -/
theorem Dat.mono {t u y m d z n e : Nat} (h : Dat t y m d) (k : Dat u z n e) (htu : t ≤ u) : y < z ∨ y = z ∧ (m < n ∨ m = n ∧ d ≤ e) := by
  have hd : t / 86400 ≤ u / 86400 := Nat.div_le_div_right htu
  have h1 := h.sum
  have k1 := k.sum
  have k2 := k.year
  by_cases hyz : y < z
  · exact Or.inl hyz
  · right
    have e1 : y = z := by
      by_cases h0 : y = z
      · exact h0
      · have := dby_mono (a := z + 1) (b := y) (by omega)
        omega
    subst e1
    refine ⟨rfl, ?_⟩
    by_cases hmn : m < n
    · exact Or.inl hmn
    · right
      have e2 : m = n := by
        by_cases h0 : m = n
        · exact h0
        · have := cum_mono y (a := n + 1) (b := m) (by omega)
          have k3 := k.lt
          have : cumN y (n + 1) = cumN y n + monN y n := rfl
          omega
      subst e2
      exact ⟨rfl, by omega⟩
theorem Dat.uniq {t y m d z n e : Nat} (h : Dat t y m d) (k : Dat t z n e) : y = z ∧ m = n ∧ d = e := by
  have a := h.mono k (Nat.le_refl _)
  have b := k.mono h (Nat.le_refl _)
  omega
/-- a date as it is written -/
def dateL (y m d : Nat) : List UInt8 := [UInt8.ofNat (48 + y / 1000 % 10), UInt8.ofNat (48 + y / 100 % 10), UInt8.ofNat (48 + y / 10 % 10), UInt8.ofNat (48 + y % 10), 45, UInt8.ofNat (48 + m / 10 % 10), UInt8.ofNat (48 + m % 10), 45, UInt8.ofNat (48 + d / 10 % 10), UInt8.ofNat (48 + d % 10)]
def dig (n : Nat) : UInt8 := UInt8.ofNat (48 + n % 10)
theorem dig_lt (a b : Nat) : dig a < dig b ↔ a % 10 < b % 10 := by
  unfold dig
  rw [UInt8.lt_iff_toNat_lt, UInt8.toNat_ofNat', UInt8.toNat_ofNat']; omega
theorem dig_eq (a b : Nat) : dig a = dig b ↔ a % 10 = b % 10 := by
  unfold dig
  rw [← UInt8.toNat_inj, UInt8.toNat_ofNat', UInt8.toNat_ofNat']; omega
theorem dateL_not {y m d z n e : Nat} (hy : y ≤ 9999) (hz : z ≤ 9999) (hm : m < 100) (hn : n < 100) (hd : d < 100) (he : e < 100) (h : y < z ∨ y = z ∧ (m < n ∨ m = n ∧ d ≤ e)) : ¬ dateL z n e < dateL y m d := by
  have e0 : dateL y m d = [dig (y / 1000), dig (y / 100), dig (y / 10), dig y, 45, dig (m / 10), dig m, 45, dig (d / 10), dig d] := rfl
  have e1 : dateL z n e = [dig (z / 1000), dig (z / 100), dig (z / 10), dig z, 45, dig (n / 10), dig n, 45, dig (e / 10), dig e] := rfl
  rw [e0, e1]
  simp only [List.cons_lt_cons_iff, dig_lt, dig_eq, List.not_lt_nil]
  have : ¬ (45 : UInt8) < 45 := by decide
  simp only [this]
  have a1 : 1000 * (y / 1000 % 10) + 100 * (y / 100 % 10) + 10 * (y / 10 % 10) + y % 10 = y := by omega
  have a2 : 1000 * (z / 1000 % 10) + 100 * (z / 100 % 10) + 10 * (z / 10 % 10) + z % 10 = z := by omega
  have a3 : 10 * (m / 10 % 10) + m % 10 = m := by omega
  have a4 : 10 * (n / 10 % 10) + n % 10 = n := by omega
  have a5 : 10 * (d / 10 % 10) + d % 10 = d := by omega
  have a6 : 10 * (e / 10 % 10) + e % 10 = e := by omega
  have b1 : y / 1000 % 10 < 10 ∧ y / 100 % 10 < 10 ∧ y / 10 % 10 < 10 ∧ y % 10 < 10 := by omega
  have b2 : z / 1000 % 10 < 10 ∧ z / 100 % 10 < 10 ∧ z / 10 % 10 < 10 ∧ z % 10 < 10 := by omega
  have b3 : m / 10 % 10 < 10 ∧ m % 10 < 10 ∧ n / 10 % 10 < 10 ∧ n % 10 < 10 := by omega
  have b5 : d / 10 % 10 < 10 ∧ d % 10 < 10 ∧ e / 10 % 10 < 10 ∧ e % 10 < 10 := by omega
  generalize y / 1000 % 10 = y3 at *
  generalize y / 100 % 10 = y2 at *
  generalize y / 10 % 10 = y1 at *
  generalize y % 10 = y0 at *
  generalize z / 1000 % 10 = z3 at *
  generalize z / 100 % 10 = z2 at *
  generalize z / 10 % 10 = z1 at *
  generalize z % 10 = z0 at *
  generalize m / 10 % 10 = m1 at *
  generalize m % 10 = m0 at *
  generalize n / 10 % 10 = n1 at *
  generalize n % 10 = n0 at *
  generalize d / 10 % 10 = d1 at *
  generalize d % 10 = d0 at *
  generalize e / 10 % 10 = f1 at *
  generalize e % 10 = f0 at *
  intro hlt
  have hy' : y = z → y3 = z3 ∧ y2 = z2 ∧ y1 = z1 ∧ y0 = z0 := by omega
  have hlt2 : z < y ∨ z = y ∧ (n < m ∨ n = m ∧ e < d) := by
    clear h hy'
    rcases hlt with h | ⟨h1, h | ⟨h2, h | ⟨h3, h | ⟨h4, h | ⟨_, h | ⟨h5, h | ⟨h6, h | ⟨_, h | ⟨h7, h | ⟨h8, h⟩⟩⟩⟩⟩⟩⟩⟩⟩⟩
    all_goals first | (left; omega) | (right; refine ⟨by omega, ?_⟩; first | (left; omega) | (right; refine ⟨by omega, by omega⟩)) | exact absurd h (by decide) | exact h.elim | exact absurd h.2 (by decide)
  omega
end Go.Proofs.YtpeepdkeicgkiaaGreatDoor
namespace Go.Proofs.YtpeepdkeicgkiaaGreatDoor
set_option linter.unusedVariables false
set_option linter.unusedSimpArgs false
set_option linter.unusedSectionVars false
open Go.RowKit

set_option maxRecDepth 100000 in
set_option maxHeartbeats 400000 in
theorem second_any (t : Nat) (w : World) (ht : t ≤ 253402300799) : Calls Tryz.prog 29 #[.int .i64 t] w fun e w' => e = .returned (.bool true) ∧ w = w' := by
  have h1 : ¬ (t : Int) < 0 := by omega
  have h2 : (t : Int) ≤ 253402300799 := by omega
  go_enter Tryz.func29, Tryz.ntmps29
  go_wp2
  go_ret
  exact ⟨rfl, rfl⟩
set_option maxRecDepth 100000 in
set_option maxHeartbeats 400000 in
theorem day_any (t : Nat) (w : World) (ht : t ≤ 253402300799) : Calls Tryz.prog 38 #[.int .i64 t] w fun e w' => e = .returned (.int .i64 ((t / 86400 : Nat) : Int)) ∧ w = w' := by
  have HS := Lib.hid fun W => second_any t W ht
  have h2 : (t : Int) ≤ 253402300799 := by omega
  have HQ := Lib.hid (show (t : Int).tdiv 86400 = ((t / 86400 : Nat) : Int) from rfl)
  go_enter Tryz.func38, Tryz.ntmps38
  go_wp2_with fail
  refine (HS.out _).mono ?_
  rintro e w1 ⟨rfl, rfl⟩
  go_wp2
  go_ret
  exact ⟨rfl, rfl⟩
set_option maxRecDepth 100000 in
set_option maxHeartbeats 400000 in
theorem week_any (t : Nat) (w : World) (ht : t ≤ 253402300799) : Calls Tryz.prog 13 #[.int .i64 t] w fun e w' => e = .returned (.int .i64 (((t / 86400 + 3) / 7 : Nat) : Int)) ∧ w = w' := by
  have HS := Lib.hid fun W => second_any t W ht
  have HD := Lib.hid fun W => day_any t W ht
  have h2 : (t : Int) ≤ 253402300799 := by omega
  have hd : t / 86400 ≤ 253402300799 := by omega
  generalize t / 86400 = d at *
  go_enter Tryz.func13, Tryz.ntmps13
  go_wp2_with fail
  refine (HS.out _).mono ?_
  rintro e w1 ⟨rfl, rfl⟩
  go_wp2_with fail
  refine (HD.out _).mono ?_
  rintro e w2 ⟨rfl, rfl⟩
  go_wp2
  go_ret
  exact ⟨rfl, rfl⟩
theorem bool_eq {b c : Bool} (h : b = c) : Ending.returned (.bool b) = .returned (.bool c) := by rw [h]
set_option maxRecDepth 100000 in
set_option maxHeartbeats 400000 in
theorem leap_any (y : Nat) (w : World) (hy : y ≤ 1000000) : Calls Tryz.prog 63 #[.int .i64 y] w fun e w' => e = .returned (.bool (leapN y)) ∧ w = w' := by
  have e4 : (y : Int).tmod 4 = ((y % 4 : Nat) : Int) := rfl
  have e100 : (y : Int).tmod 100 = ((y % 100 : Nat) : Int) := rfl
  have e400 : (y : Int).tmod 400 = ((y % 400 : Nat) : Int) := rfl
  have HL := Lib.hid (show leapN y = (y % 4 == 0 && (y % 100 != 0 || y % 400 == 0)) from rfl)
  generalize leapN y = r at *
  generalize y % 4 = a at *
  generalize y % 100 = b at *
  generalize y % 400 = c at *
  have c1 : ((a : Int) == 0) = (a == 0) := by rw [Bool.eq_iff_iff]; simp
  have c2 : ((b : Int) != 0) = (b != 0) := by rw [Bool.eq_iff_iff]; simp
  have c3 : ((c : Int) == 0) = (c == 0) := by rw [Bool.eq_iff_iff]; simp
  generalize (a == 0) = p at *
  generalize (b != 0) = q at *
  generalize (c == 0) = s at *
  cases p with
  | false =>
    go_enter Tryz.func63, Tryz.ntmps63
    go_wp2
    go_ret
    exact ⟨by rw [HL.out]; rfl, rfl⟩
  | true =>
    cases q with
    | true =>
      go_enter Tryz.func63, Tryz.ntmps63
      go_wp2
      go_ret
      exact ⟨by rw [HL.out]; rfl, rfl⟩
    | false =>
      go_enter Tryz.func63, Tryz.ntmps63
      go_wp2
      go_ret
      exact ⟨by rw [HL.out]; rfl, rfl⟩
set_option maxRecDepth 100000 in
set_option maxHeartbeats 800000 in
theorem length_any (y m : Nat) (w : World) (hy : y ≤ 1000000) (hm : m ≤ 1000000) : Calls Tryz.prog 64 #[.int .i64 y, .int .i64 m] w fun e w' => e = .returned (.int .i64 (monN y m : Nat)) ∧ w = w' := by
  have HL := Lib.hid fun W => leap_any y W hy
  have HM := Lib.hid (show monN y m = if m = 1 then (if leapN y then 29 else 28) else if m = 3 ∨ m = 5 ∨ m = 8 ∨ m = 10 then 30 else 31 from rfl)
  generalize monN y m = r at *
  by_cases h1 : m = 1
  · subst h1
    rw [if_pos rfl] at HM
    cases hl : leapN y with
    | true =>
      rw [hl] at HL HM
      clear hl
      have HM2 := Lib.hid (show r = 29 from HM.out)
      go_enter Tryz.func64, Tryz.ntmps64
      go_wp2_with fail
      refine (HL.out _).mono ?_
      rintro e w1 ⟨rfl, rfl⟩
      go_wp2
      go_ret
      exact ⟨by rw [HM2.out]; rfl, rfl⟩
    | false =>
      rw [hl] at HL HM
      clear hl
      have HM2 := Lib.hid (show r = 28 from HM.out)
      go_enter Tryz.func64, Tryz.ntmps64
      go_wp2_with fail
      refine (HL.out _).mono ?_
      rintro e w1 ⟨rfl, rfl⟩
      go_wp2
      go_ret
      exact ⟨by rw [HM2.out]; rfl, rfl⟩
  · rw [if_neg h1] at HM
    have k1 : ((m : Int) == 1) = false := by simp; omega
    clear HL
    by_cases h3 : m = 3 ∨ m = 5 ∨ m = 8 ∨ m = 10
    · rw [if_pos h3] at HM
      rcases h3 with rfl | rfl | rfl | rfl
      all_goals
        go_enter Tryz.func64, Tryz.ntmps64
        go_wp2
        go_ret
        exact ⟨by rw [HM.out]; rfl, rfl⟩
    · rw [if_neg h3] at HM
      have k3 : ((m : Int) == 3) = false := by simp; omega
      have k5 : ((m : Int) == 5) = false := by simp; omega
      have k8 : ((m : Int) == 8) = false := by simp; omega
      have k10 : ((m : Int) == 10) = false := by simp; omega
      clear h1 h3
      go_enter Tryz.func64, Tryz.ntmps64
      go_wp2
      go_ret
      exact ⟨by rw [HM.out]; rfl, rfl⟩
set_option maxRecDepth 100000 in
set_option maxHeartbeats 1600000 in
theorem date_any (t : Nat) (w : World) (ht : t ≤ 253402300799) : Calls Tryz.prog 30 #[.int .i64 t] w fun e w' => ∃ y m d : Nat, e = .returned (.tuple #[.int .i64 y, .int .i64 m, .int .i64 d]) ∧ Dat t y m d ∧ w = w' := by
  have HQ := Lib.hid (show (t : Int).tdiv 86400 = ((t / 86400 : Nat) : Int) from rfl)
  have HC := Lib.hid (show ((t / 86400 : Nat) : Int).tdiv 146097 = ((t / 86400 / 146097 : Nat) : Int) from rfl)
  have HT := Lib.hid ht
  obtain ⟨D, hD⟩ : ∃ D, D = t / 86400 := ⟨_, rfl⟩
  have HD := Lib.hid hD
  have hDl : D ≤ 2932896 := by omega
  rw [← hD] at HQ HC
  have q1 := HQ.out
  have q2 := HC.out
  clear hD HQ HC
  obtain ⟨C, hC⟩ : ∃ C, C = D / 146097 := ⟨_, rfl⟩
  have hC1 : 146097 * C ≤ D := by omega
  have hC2 : D < 146097 * C + 146097 := by omega
  rw [← hC] at q2
  clear hC
  go_enter Tryz.func30, Tryz.ntmps30
  go_wp2
  go_loopw [5, 6, 8] (fun dv yv cv wr => ∃ k : Nat, k ≤ C ∧ dv = .int .i64 ((D - 146097 * k : Nat) : Int) ∧ yv = .int .i64 ((1970 + 400 * k : Nat) : Int) ∧ cv = .int .i64 ((C - k : Nat) : Int) ∧ w = wr) (fun _ _ cv _ => (intOf cv).toNat)
  case atStart => exact ⟨0, Nat.zero_le _, rfl, rfl, rfl, rfl⟩
  case round =>
    obtain ⟨k, hk, rfl, rfl, rfl, rfl⟩ := hrel
    by_cases hlt : k < C
    · have hpos : 0 < ((C - k : Nat) : Int) := by omega
      have hC3 : 146097 * (k + 1) ≤ 146097 * C := Nat.mul_le_mul_left _ hlt
      go_wp2
      go_roundw
      case rel => exact ⟨k + 1, by omega, congrArg _ (by omega), congrArg _ (by omega), congrArg _ (by omega), trivial⟩
      case measure => simp [intOf]; omega
    · obtain rfl : k = C := by omega
      have hpos : ¬ 0 < ((k - k : Nat) : Int) := by omega
      obtain ⟨e, he⟩ : ∃ e, e = D - 146097 * k := ⟨_, rfl⟩
      have HY := Lib.hid (show dby (1970 + 400 * k) + e = D + dby 1970 by have := dby_400 1970 k; omega)
      rw [← he]
      clear he hC1 hC2 q1 q2
      obtain ⟨y0, hy0⟩ : ∃ y0, y0 = 1970 + 400 * k := ⟨_, rfl⟩
      have hy1 : 1970 ≤ y0 := by omega
      rw [← hy0]
      rw [← hy0] at HY
      clear hy0
      go_wp2
      go_loopw [5, 6] (fun dv yv wr => ∃ d y : Nat, dv = .int .i64 (d : Nat) ∧ yv = .int .i64 (y : Nat) ∧ 1970 ≤ y ∧ Hid (dby y + d = D + dby 1970 ∧ w = wr)) (fun dv _ _ => (intOf dv).toNat)
      case atStart => exact ⟨e, y0, rfl, rfl, hy1, Lib.hid ⟨HY.out, rfl⟩⟩
      case round =>
        clear HY
        obtain ⟨d, y, rfl, rfl, hy, HY⟩ := hrel
        have hy9 : y ≤ 9999 := by
          have h1 := HY.out.1
          by_cases h : y ≤ 9999
          · exact h
          · have h2 := dby_mono (a := 10000) (b := y) (by omega)
            have h3 : dby 10000 = 3652425 := by decide
            have h4 : dby 1970 = 719528 := by decide
            omega
        have hdl : d ≤ 4000000 := by
          have h1 := HY.out.1
          have h4 : dby 1970 = 719528 := by decide
          omega
        have HL := Lib.hid fun W => leap_any y W (by omega)
        have hn := yearN_pos y
        have HYN := Lib.hid (show yearN y = if leapN y then 366 else 365 from rfl)
        have HS := Lib.hid (dby_succ y)
        generalize leapN y = lp at *
        go_wp2_with fail
        refine (HL.out _).mono ?_
        rintro e w1 ⟨rfl, rfl⟩
        by_cases hlt2 : d < yearN y
        · have HF := Lib.hid hlt2
          have HN2 := Lib.hid HYN.out
          have e9 : (365 = yearN y ∧ lp = false ∧ (d < 365 → decide ((d : Int) < 365) = true)) ∨ (366 = yearN y ∧ lp = true ∧ (d < 366 → decide ((d : Int) < 366) = true)) := by
            have := HYN.out
            cases lp
            · exact .inl ⟨this.symm, rfl, fun h => decide_eq_true (by omega)⟩
            · exact .inr ⟨this.symm, rfl, fun h => decide_eq_true (by omega)⟩
          clear HYN HN2
          rcases e9 with ⟨e9, rfl, hdd⟩ | ⟨e9, rfl, hdd⟩
          all_goals
            have hd9 := hlt2
            rw [← e9] at hd9
            have hdd := hdd hd9
            clear e9 hlt2 hn HL HS
            go_wp2
            go_loopw [5, 7] (fun dv mv wr => ∃ d m : Nat, dv = .int .i64 (d : Nat) ∧ mv = .int .i64 (m : Nat) ∧ m ≤ 11 ∧ d ≤ 4000000 ∧ Hid (dby y + cumN y m + d = D + dby 1970 ∧ cumN y m + d < yearN y ∧ w = wr)) (fun dv _ _ => (intOf dv).toNat)
            case atStart => exact ⟨d, 0, rfl, rfl, by omega, by omega, Lib.hid ⟨HY.out.1, by have := HF.out; show 0 + d < _; omega, HY.out.2⟩⟩
            case round =>
              have HY1 := Lib.hid hy
              clear HY HF
              obtain ⟨d, m, rfl, rfl, hm, hd, HZ⟩ := hrel
              have HLN := Lib.hid fun W => length_any y m W (by omega) (by omega)
              have hmn := monN_le y m
              have HCU := Lib.hid (show cumN y (m + 1) = cumN y m + monN y m from rfl)
              by_cases hge : monN y m ≤ d
              · have HN := Lib.hid (show m + 1 ≤ 11 ∧ dby y + cumN y (m + 1) + (d - monN y m) = D + dby 1970 ∧ cumN y (m + 1) + (d - monN y m) < yearN y from by
                  have h1 := HZ.out
                  have h2 := HCU.out
                  have h3 := cum_12 y
                  have h4 : cumN y 12 = cumN y 11 + monN y 11 := rfl
                  refine ⟨?_, by omega, by omega⟩
                  by_cases h11 : m = 11
                  · subst h11; omega
                  · omega)
                generalize monN y m = n at *
                go_wp2_with fail
                refine (HLN.out _).mono ?_
                rintro e w1 ⟨rfl, rfl⟩
                go_wp2_with fail
                refine (HLN.out _).mono ?_
                rintro e w1 ⟨rfl, rfl⟩
                go_wp2
                go_roundw
                case rel => exact ⟨d - n, m + 1, congrArg _ (by omega), congrArg _ (by omega), HN.out.1, by omega, Lib.hid ⟨HN.out.2.1, HN.out.2.2, HZ.out.2.2⟩⟩
                case measure => simp [intOf]; omega
              · have HDT := Lib.hid (show Dat t y m d from ⟨by have := HZ.out.1; have := HD.out; omega, by omega, by omega, HY1.out⟩)
                have HW := Lib.hid HZ.out.2.2
                generalize monN y m = n at *
                go_wp2_with fail
                refine (HLN.out _).mono ?_
                rintro e w1 ⟨rfl, rfl⟩
                go_wp2
                go_ret3
                exact ⟨y, m, d, rfl, HDT.out, HW.out⟩
        · have HN := Lib.hid (show dby (y + 1) + (d - yearN y) = D + dby 1970 from by have h1 := HY.out.1; have h2 := HS.out; omega)
          have e9 : 365 = yearN y ∧ lp = false ∨ 366 = yearN y ∧ lp = true := by
            have := HYN.out
            cases lp
            · exact .inl ⟨this.symm, rfl⟩
            · exact .inr ⟨this.symm, rfl⟩
          clear HYN
          rcases e9 with ⟨e9, rfl⟩ | ⟨e9, rfl⟩
          all_goals
            rw [← e9] at hlt2 HN
            clear e9 hn HL HS
            go_wp2
            go_roundw
            case rel => exact ⟨_, y + 1, congrArg _ (by omega), congrArg _ (by omega), by omega, Lib.hid ⟨HN.out, HY.out.2⟩⟩
            case measure => simp [intOf]; omega
end Go.Proofs.YtpeepdkeicgkiaaGreatDoor
namespace Go.Proofs.YtpeepdkeicgkiaaGreatDoor
set_option linter.unusedVariables false
set_option linter.unusedSimpArgs false
set_option linter.unusedSectionVars false
open Go.RowKit Go.Maps

def dg (b : Bool) (x : Nat) : UInt8 := if b = true then UInt8.ofNat (48 + x % 10) else 48
def rowS (b3 b6 b9 : Bool) (y m d : Nat) : List UInt8 := [dg b3 (y / 1000), dg b3 (y / 100), dg b3 (y / 10), dg b3 y, 45, dg b6 (m / 10), dg b6 m, 45, dg b9 (d / 10), dg b9 d]
/-- digits added from a place on, backwards -/
def fillD : Nat → Nat → List UInt8 → List UInt8
  | 0, _, S => S
  | k + 1, n, S => if n = 0 then S else fillD k (n / 10) (S.set k (S.getD k 0 + UInt8.ofNat (n % 10)))
theorem fillD_zero (k : Nat) (S : List UInt8) : fillD k 0 S = S := by cases k <;> simp [fillD]
theorem fillD_pos (k n : Nat) (S : List UInt8) (h : n ≠ 0) : fillD (k + 1) n S = fillD k (n / 10) (S.set k (S.getD k 0 + UInt8.ofNat (n % 10))) := by
  unfold fillD; rw [if_neg h]; cases k <;> rfl
theorem dg_add (x : Nat) : (48 : UInt8) + UInt8.ofNat (x % 10) = dg true x := by
  unfold dg
  rw [if_pos rfl, UInt8.ofNat_add]; rfl
theorem dg_low (b : Bool) {x : Nat} (h : x % 10 = 0) : dg b x = 48 := by
  unfold dg; rw [h]; cases b <;> rfl
theorem fill_year (b6 b9 : Bool) (y m d : Nat) (h1 : 1000 ≤ y) (h2 : y ≤ 9999) : fillD 4 y (rowS false b6 b9 y m d) = rowS true b6 b9 y m d := by
  have e1 : y / 10 / 10 = y / 100 := by omega
  have e2 : y / 10 / 10 / 10 = y / 1000 := by omega
  rw [fillD_pos _ _ _ (by omega), fillD_pos _ _ _ (by omega), fillD_pos _ _ _ (by omega), fillD_pos _ _ _ (by omega)]
  unfold fillD rowS
  rw [e2, e1]
  simp only [List.getD_eq_getElem?_getD, List.set_cons_succ, List.set_cons_zero, List.getElem?_cons_succ, List.getElem?_cons_zero, Option.getD_some]
  simp only [show ∀ x, dg false x = 48 from fun _ => rfl, dg_add]
theorem fill_two (k : Nat) (S : List UInt8) (n : Nat) (hk : k + 1 < S.length) (h1 : 1 ≤ n) (h2 : n ≤ 99) (hl : S[k]? = some 48) (hr : S[k + 1]? = some 48) : fillD (k + 2) n S = (S.set (k + 1) (dg true n)).set k (dg true (n / 10)) := by
  rw [fillD_pos _ _ _ (by omega)]
  have e1 : S.getD (k + 1) 0 = 48 := by rw [List.getD_eq_getElem?_getD, hr]; rfl
  rw [e1, dg_add]
  by_cases h : n / 10 = 0
  · rw [h, fillD_zero]
    have e2 : dg true 0 = 48 := dg_low _ rfl
    rw [e2]
    have : (S.set (k + 1) (dg true n))[k]? = some 48 := by rw [List.getElem?_set_ne (by omega)]; exact hl
    obtain ⟨hlt, he⟩ := List.getElem?_eq_some_iff.1 this
    have := List.set_getElem_self hlt
    rw [he] at this
    exact this.symm
  · rw [fillD_pos _ _ _ h]
    have e3 : (S.set (k + 1) (dg true n)).getD k 0 = 48 := by rw [List.getD_eq_getElem?_getD, List.getElem?_set_ne (by omega), hl]; rfl
    rw [e3, dg_add, show n / 10 / 10 = 0 by omega, fillD_zero]
theorem fill_month (b3 b9 : Bool) (y m d : Nat) (h1 : 1 ≤ m) (h2 : m ≤ 99) : fillD 7 m (rowS b3 false b9 y m d) = rowS b3 true b9 y m d := by
  rw [fill_two 5 _ m (by simp [rowS]) h1 h2 rfl rfl]; rfl
theorem fill_day (b3 b6 : Bool) (y m d : Nat) (h1 : 1 ≤ d) (h2 : d ≤ 99) : fillD 10 d (rowS b3 b6 false y m d) = rowS b3 b6 true y m d := by
  rw [fill_two 8 _ d (by simp [rowS]) h1 h2 rfl rfl]; rfl
theorem rowS_date (y m d : Nat) : rowS true true true y m d = dateL y m d := rfl
/-- the map over which it goes -/
def map3 (y m d : Int) : DataW Value := .map [(.int .i64 3, .lit (.int .i64 y)), (.int .i64 6, .lit (.int .i64 m)), (.int .i64 9, .lit (.int .i64 d))]
theorem map3_at {y m d : Int} {x c : Int} (h : ∀ zd : DataW Value, (map3 y m d).atKey (.int .i64 x) zd = .lit (.int .i64 c)) : (x = 3 ∧ c = y) ∨ (x = 6 ∧ c = m) ∨ (x = 9 ∧ c = d) := by
  have hs : ∀ a b : Int, (Lit.int .i64 a).sameKey (.int .i64 b) = decide (a = b) := by
    intro a b
    rw [Bool.eq_iff_iff]
    simp [Lit.sameKey]
  have h0 := h (.lit (.int .i64 (c + 1)))
  unfold map3 DataW.atKey at h0
  simp only [List.find?, hs] at h0
  by_cases h3 : (3 : Int) = x
  · simp [h3] at h0; exact .inl ⟨h3.symm, h0.symm⟩
  · by_cases h6 : (6 : Int) = x
    · simp [h3, h6] at h0; exact .inr (.inl ⟨h6.symm, h0.symm⟩)
    · by_cases h9 : (9 : Int) = x
      · simp [h3, h6, h9] at h0; exact .inr (.inr ⟨h9.symm, h0.symm⟩)
      · simp [h3, h6, h9] at h0
        omega
theorem map3_put (y m d : Int) : (((DataW.map [] : DataW Value).put (.int .i64 3) (.lit (.int .i64 y))).put (.int .i64 6) (.lit (.int .i64 m))).put (.int .i64 9) (.lit (.int .i64 d)) = map3 y m d := by
  simp [DataW.put, DataW.insert, map3, Lit.sameKey, Lit.before]
def lft (left : Lit → Bool) (k : Int) : Bool := left (.int .i64 k)
theorem lft_step (left : Lit → Bool) (x k : Int) : lft (fun z => left z && !z.sameKey (.int .i64 x)) k = (lft left k && !decide (k = x)) := by
  have hs : ∀ a b : Int, (Lit.int .i64 a).sameKey (.int .i64 b) = decide (a = b) := by
    intro a b
    rw [Bool.eq_iff_iff]
    simp [Lit.sameKey]
  show (left (.int .i64 k) && !(Lit.int .i64 k).sameKey (.int .i64 x)) = _
  rw [hs]; rfl
theorem map3_has (y m d : Int) : lft (Maps.has (map3 y m d)) 3 = true ∧ lft (Maps.has (map3 y m d)) 6 = true ∧ lft (Maps.has (map3 y m d)) 9 = true := by
  refine ⟨?_, ?_, ?_⟩ <;> simp [lft, map3, Maps.has, Lit.sameKey]
theorem law3 : Keyed Tryz.prog 3 := int_keyed Tryz.underlying3
theorem wfI {x : Int} (h1 : -9223372036854775808 ≤ x) (h2 : x ≤ 9223372036854775807) : (Lit.int .i64 x).wf = true := by
  show (decide (IntKind.i64.min ≤ x) && decide (x ≤ IntKind.i64.max)) = true
  rw [show IntKind.i64.min = -9223372036854775808 by decide, show IntKind.i64.max = 9223372036854775807 by decide, decide_eq_true h1, decide_eq_true h2]
  rfl
theorem grown_set (w : World) (g i : Nat) (u : Value) : w.grownBy (w.setCell ⟨g, i, none⟩ u) (some g) :=
  ⟨rfl, rfl, rfl, by rw [World.size_setCell]; exact Nat.le_refl _, fun k _ hk => Below.heap_setCell _ _ _ k (fun e => hk (by rw [e]))⟩
end Go.Proofs.YtpeepdkeicgkiaaGreatDoor
namespace Go.Proofs.YtpeepdkeicgkiaaGreatDoor
set_option linter.unusedVariables false
set_option linter.unusedSimpArgs false
set_option linter.unusedSectionVars false
open Go.RowKit Go.Maps

def rowC (S : List UInt8) : Array Value := (bytesV S).toArray
theorem rowC_size (S : List UInt8) : (rowC S).size = S.length := by simp [rowC, bytesV]
/-- bytes made of a constant: the row bears a mark behind its end -/
def Row10 (w : World) (g : Nat) (S : List UInt8) : Prop := S.length = 10 ∧ w.heap[g]? = some (.cells (rowC S) 5 (10, 11))
theorem Row10.lt {w : World} {g : Nat} {S : List UInt8} (h : Row10 w g S) : g < w.heap.size := (Array.getElem?_eq_some_iff.1 h.2).1
theorem Row10.cell {w : World} {g : Nat} {S : List UInt8} (h : Row10 w g S) {i : Nat} (hi : i < S.length) : w.cell? ⟨g, i, none⟩ = some (.int .u8 (S[i].toNat : Int)) := by
  rw [cell_of_row w g i _ _ _ h.2]
  simp [rowC, bytesV, List.getElem?_eq_getElem hi]
theorem Row10.frozen {w : World} {g : Nat} {S : List UInt8} (h : Row10 w g S) {i : Nat} (hi : i < 10) : w.frozen? ⟨g, i, none⟩ = false := by
  unfold World.frozen?
  rw [h.2]
  simp; omega
theorem Row10.keep {w w' : World} {g : Nat} {S : List UInt8} (h : Row10 w g S) (he : w'.heap[g]? = w.heap[g]?) : Row10 w' g S := ⟨h.1, he.trans h.2⟩
theorem Row10.set {w : World} {g : Nat} {S : List UInt8} (h : Row10 w g S) (i : Nat) (c : UInt8) : Row10 (w.setCell ⟨g, i, none⟩ (.int .u8 (c.toNat : Int))) g (S.set i c) := by
  refine ⟨by rw [List.length_set]; exact h.1, ?_⟩
  have : (w.setCell ⟨g, i, none⟩ (.int .u8 (c.toNat : Int))).heap[g]? = some (.cells ((rowC S).setIfInBounds i (.int .u8 (c.toNat : Int))) 5 (10, 11)) := by
    simp [World.setCell, Array.getElem?_modify, h.2]
  rw [this]
  congr 2
  apply Array.ext'
  simp [rowC, bytesV, List.map_set]
/-- 'm[k] = v' of a map's literal -/
theorem wpList_insert_own {H : Type} {P : Program} (w : World) {ops : Array Oper} {rest : List Oper} {o : Oper} {a : Act} {Q : Exit → Act → World → Prop}
    (hg : o.guard = none) (m x v : Operand) (t : TypeId) (hop : o.op = Op.insert t m x v)
    (k e : TypeId) (K : Keyed P k) (ht : P.underlying t = some (.map k e)) (R : Value → Option (DataW H × List MemPlace)) (b n : Nat) (D : DataW H)
    (hm : a.eval m = .map (some b)) (hown : w.ownsMap P k R b n D) (hn : n < maxLen) (key val : Value) (kl : Lit) (hx : a.eval x = key) (hv : a.eval v = val) (hkey : keyOf P k key = some kl)
    (d : DataW H) (ps : List MemPlace) (hval : R val = some (d, ps))
    (hK : ∀ w', w'.ownsMap P k R b (n + 1) (D.put kl d) → w.grownBy w' (some b) → wpList P ops Q rest (a.put o.dst undef) w') :
    wpList P ops Q (o :: rest) a w := by
  refine wpList_plain hg fun K' hK' => ?_
  obtain ⟨w', hrun, r1, r2⟩ := hown.update K ht hn hkey hval
  unfold Oper.wp
  simp [execOp, hop, hm, hx, hv, hrun, Result.andThen]
  exact hK' _ _ (hK w' r1 r2)
/-- what holds ahead of each key -/
structure DR (w wr : World) (r y m d : Nat) (b3 b6 b9 : Bool) (left : Lit → Bool) (cnt : Nat) : Prop where
  rng : wr.ranges Tryz.prog 3 (plainElem (H := Value) Tryz.prog 3) (w.heap.size + 1) r 3 (map3 (y : Int) ((m : Int) + 1) ((d : Int) + 1)) left cnt
  l3 : b3 = !lft left 3
  l6 : b6 = !lft left 6
  l9 : b9 = !lft left 9
  row : Row10 wr w.heap.size (rowS b3 b6 b9 y (m + 1) (d + 1))
  bel : Below w.heap.size w wr
/-- a key has come: what its digits make -/
theorem key_step {y m d : Nat} {b3 b6 b9 : Bool} {left : Lit → Bool} {x c : Int} (hy : y ≤ 9999) (hy0 : 1970 ≤ y) (hm : m < 12) (hd : d ≤ 30) (l3 : b3 = !lft left 3) (l6 : b6 = !lft left 6) (l9 : b9 = !lft left 9) (hx : left (.int .i64 x) = true)
    (hat : ∀ zd : DataW Value, (map3 (y : Int) ((m : Int) + 1) ((d : Int) + 1)).atKey (.int .i64 x) zd = .lit (.int .i64 c)) :
    ∃ (k n : Nat) (c3 c6 c9 : Bool), x = (k : Int) - 1 ∧ c = (n : Int) ∧ n < 10 ^ k ∧ k ≤ 10 ∧ fillD k n (rowS b3 b6 b9 y (m + 1) (d + 1)) = rowS c3 c6 c9 y (m + 1) (d + 1) ∧
      (c3 = !lft (fun z => left z && !z.sameKey (.int .i64 x)) 3) ∧ (c6 = !lft (fun z => left z && !z.sameKey (.int .i64 x)) 6) ∧ (c9 = !lft (fun z => left z && !z.sameKey (.int .i64 x)) 9) := by
  have hl : lft left x = true := hx
  rcases map3_at hat with ⟨rfl, rfl⟩ | ⟨rfl, rfl⟩ | ⟨rfl, rfl⟩
  · rw [hl] at l3
    subst l3
    refine ⟨4, y, true, b6, b9, by decide, rfl, by omega, by decide, fill_year b6 b9 y _ _ (by omega) hy, ?_, ?_, ?_⟩ <;> rw [lft_step]
    · simp
    · rw [l6]; simp
    · rw [l9]; simp
  · rw [hl] at l6
    subst l6
    refine ⟨7, m + 1, b3, true, b9, by decide, by omega, by omega, by decide, fill_month b3 b9 y _ _ (by omega) (by omega), ?_, ?_, ?_⟩ <;> rw [lft_step]
    · rw [l3]; simp
    · simp
    · rw [l9]; simp
  · rw [hl] at l9
    subst l9
    refine ⟨10, d + 1, b3, b6, true, by decide, by omega, by omega, by decide, fill_day b3 b6 y _ _ (by omega) (by omega), ?_, ?_, ?_⟩ <;> rw [lft_step]
    · rw [l3]; simp
    · rw [l6]; simp
    · simp
theorem u8_sum (a : UInt8) (n : Nat) : IntKind.u8.wrap ((a.toNat : Int) + ((n % 10 : Nat) : Int)) = (((a + UInt8.ofNat (n % 10)).toNat : Nat) : Int) := by
  rw [UInt8.toNat_add, UInt8.toNat_ofNat']
  have h : IntKind.u8.wrap ((a.toNat : Int) + ((n % 10 : Nat) : Int)) = ((a.toNat : Int) + ((n % 10 : Nat) : Int)) % 256 := rfl
  rw [h]
  omega
set_option maxRecDepth 100000 in
set_option maxHeartbeats 3200000 in
theorem datestr_any (t : Nat) (w : World) (ht : t ≤ 253402300799) : Calls Tryz.prog 8 #[.int .i64 t] w fun e w' => ∃ y m d, e = .returned (.tuple #[.string (bs (dateL y (m + 1) (d + 1))), .int .i64 0]) ∧ Dat t y m d ∧ Below w.heap.size w w' := by
  have HS := Lib.hid fun W => second_any t W ht
  have HDA := Lib.hid fun W => date_any t W ht
  have HTT := Lib.hid ht
  have hmm := @run_makeMap Tryz.prog
  clear ht
  go_enter Tryz.func8, Tryz.ntmps8
  go_wp2_with fail
  refine (HS.out _).mono ?_
  rintro e w1 ⟨rfl, rfl⟩
  go_wp2_with fail
  refine (HDA.out _).mono ?_
  rintro e w2 ⟨y, m, d, rfl, hdat, rfl⟩
  have HD := Lib.hid hdat
  have hy := hdat.lim HTT.out
  have hy0 := hdat.old
  have hm := hdat.mon
  have hd : d ≤ 30 := by have := hdat.lt; have := monN_le y m; omega
  clear hdat HS HDA
  have hcv : (convert 76 76 (.slice (some ⟨w.heap.size, 0, none⟩) 10 10)).run Tryz.prog (w.alloc (.cells #[.int .u8 48, .int .u8 48, .int .u8 48, .int .u8 48, .int .u8 45, .int .u8 48, .int .u8 48, .int .u8 45, .int .u8 48, .int .u8 48] 5)) = .ok (.slice (some ⟨w.heap.size, 0, none⟩) 10 10) (w.alloc (.cells #[.int .u8 48, .int .u8 48, .int .u8 48, .int .u8 48, .int .u8 45, .int .u8 48, .int .u8 48, .int .u8 45, .int .u8 48, .int .u8 48] 5 (10, 11))) :=
    Lib.run_convert_bytes_const (P := Tryz.prog) w 76 5 #[.int .u8 48, .int .u8 48, .int .u8 48, .int .u8 48, .int .u8 45, .int .u8 48, .int .u8 48, .int .u8 45, .int .u8 48, .int .u8 48] 10 10 Tryz.underlying76 Tryz.underlying5
  have HB0 := Lib.hid (show Row10 (w.alloc (.cells #[.int .u8 48, .int .u8 48, .int .u8 48, .int .u8 48, .int .u8 45, .int .u8 48, .int .u8 48, .int .u8 45, .int .u8 48, .int .u8 48] 5 (10, 11))) w.heap.size (rowS false false false y (m + 1) (d + 1)) from ⟨rfl, heap_alloc_new w _⟩)
  have HW0 := Lib.hid ((Below.refl w.heap.size w).alloc (Nat.le_refl _) (.cells #[.int .u8 48, .int .u8 48, .int .u8 48, .int .u8 48, .int .u8 45, .int .u8 48, .int .u8 48, .int .u8 45, .int .u8 48, .int .u8 48] 5 (10, 11)))
  have hmade := World.ownsMap_made (H := Value) (w.alloc (.cells #[.int .u8 48, .int .u8 48, .int .u8 48, .int .u8 48, .int .u8 45, .int .u8 48, .int .u8 48, .int .u8 45, .int .u8 48, .int .u8 48] 5 (10, 11))) Tryz.prog 3 (plainElem Tryz.prog 3)
  rw [World.size_alloc] at hmade
  have hsz0 := World.size_alloc w (.cells #[.int .u8 48, .int .u8 48, .int .u8 48, .int .u8 48, .int .u8 45, .int .u8 48, .int .u8 48, .int .u8 45, .int .u8 48, .int .u8 48] 5 (10, 11))
  go_upto_region 5 with fail
  generalize w.alloc (.cells #[.int .u8 48, .int .u8 48, .int .u8 48, .int .u8 48, .int .u8 45, .int .u8 48, .int .u8 48, .int .u8 45, .int .u8 48, .int .u8 48] 5 (10, 11)) = w0 at *
  clear hcv
  go_wp2_with (first
    | (refine wpList_insert_own _ rfl _ _ _ 77 rfl 3 3 law3 Tryz.underlying77 _ (w.heap.size + 1) _ _ rfl hmade (by decide) _ _ _ rfl rfl (keyOf_int_mk Tryz.underlying3 (by decide)) _ [] (plainElem_int Tryz.underlying3 (wfI (by omega) (by omega))) ?_; intro w3 hm3 hg3; clear hmade; go_frame)
    | (refine wpList_insert_own _ rfl _ _ _ 77 rfl 3 3 law3 Tryz.underlying77 _ (w.heap.size + 1) _ _ rfl hm3 (by decide) _ _ _ rfl rfl (keyOf_int_mk Tryz.underlying3 (by decide)) _ [] (plainElem_int Tryz.underlying3 (wfI (by omega) (by omega))) ?_; intro w6 hm6 hg6; clear hm3; go_frame)
    | (refine wpList_insert_own _ rfl _ _ _ 77 rfl 3 3 law3 Tryz.underlying77 _ (w.heap.size + 1) _ _ rfl hm6 (by decide) _ _ _ rfl rfl (keyOf_int_mk Tryz.underlying3 (by decide)) _ [] (plainElem_int Tryz.underlying3 (wfI (by omega) (by omega))) ?_; intro w9 hm9 hg9; clear hm6; go_frame)
    | (at_range; refine wpList_range_own _ rfl _ 77 rfl 3 3 law3 Tryz.underlying77 _ (w.heap.size + 1) _ _ rfl hm9 ?_; intro w10 hrg0 hg0 hs0))
  go_frame
  rw [map3_put] at hrg0
  have hr : w.heap.size + 2 ≤ w9.heap.size := by
    have h1 := hg3.size; have h2 := hg6.size; have h3 := hg9.size
    rw [World.size_alloc] at h1
    omega
  have HST := Lib.hid (show DR w w10 w9.heap.size y m d false false false (Maps.has (map3 (y : Int) ((m : Int) + 1) ((d : Int) + 1))) (Maps.size (map3 (y : Int) ((m : Int) + 1) ((d : Int) + 1))) from by
    obtain ⟨k3, k6, k9⟩ := map3_has (y : Int) ((m : Int) + 1) ((d : Int) + 1)
    have hlt := HB0.out.lt
    have z1 := hg3.size
    have z2 := hg6.size
    have z3 := hg9.size
    rw [World.size_alloc] at z1
    have q1 : w3.heap[w.heap.size]? = w0.heap[w.heap.size]? := (hg3.block _ (by rw [World.size_alloc]; omega) (by simp)).trans (Below.heap_alloc w0 _ _ hlt)
    have q2 : w6.heap[w.heap.size]? = w0.heap[w.heap.size]? := (hg6.block _ (by omega) (by simp)).trans q1
    have q3 : w9.heap[w.heap.size]? = w0.heap[w.heap.size]? := (hg9.block _ (by omega) (by simp)).trans q2
    have q4 : w10.heap[w.heap.size]? = w0.heap[w.heap.size]? := (hg0.block _ (by omega) (by simp)).trans q3
    refine ⟨hrg0, by rw [k3]; rfl, by rw [k6]; rfl, by rw [k9]; rfl, HB0.out.keep q4, ?_⟩
    exact (((((HW0.out.alloc HW0.out.size _).grown hg3 (by rw [World.size_alloc]; omega) (fun j hj => by cases hj; omega)).grown hg6 (by omega) (fun j hj => by cases hj; omega)).grown hg9 (by omega) (fun j hj => by cases hj; omega)).grown hg0 (by omega) (fun j hj => by cases hj)))
  generalize w9.heap.size = r at *
  clear hrg0 hg0 hs0 hg9 hg6 hg3 hm9 HB0 HW0 hsz0 hmm
  go_loopw [8] (fun _ wr => ∃ (left : Lit → Bool) (cnt : Nat) (b3 b6 b9 : Bool), Hid (DR w wr r y m d b3 b6 b9 left cnt)) (fun _ wr => wr.rangeLeft (w.heap.size + 1) r)
  case atStart => exact ⟨_, _, false, false, false, HST⟩
  case round =>
    clear HST
    obtain ⟨left, cnt, b3, b6, b9, HR⟩ := hrel
    have hrg := HR.out.rng
    have hcs : (∀ kl, left kl = false) → (convert 76 9 (.slice (some ⟨w.heap.size, 0, none⟩) 10 10)).run Tryz.prog wr = .ok (.string (bs (dateL y (m + 1) (d + 1)))) wr := fun hl => by
      have e3 : b3 = true := by rw [HR.out.l3]; simp [lft, hl]
      have e6 : b6 = true := by rw [HR.out.l6]; simp [lft, hl]
      have e9 : b9 = true := by rw [HR.out.l9]; simp [lft, hl]
      have hrow := HR.out.row
      rw [e3, e6, e9, rowS_date] at hrow
      exact run_convert_bytes_back wr 76 9 5 ⟨w.heap.size, 0, none⟩ 10 (dateL y (m + 1) (d + 1)) Tryz.underlying76 Tryz.underlying5 Tryz.underlying9 fun j hj => by
        have := hrow.cell hj
        rw [show (⟨w.heap.size, 0, none⟩ : Addr).add j = ⟨w.heap.size, j, none⟩ by unfold Addr.add; split <;> simp_all]
        exact this
    have HCS := Lib.hid hcs
    clear hcs
    go_wp2_with (at_next; refine wpList_next_ranges_ii _ rfl _ rfl 3 3 .i64 .i64 law3 Tryz.underlying3 Tryz.underlying3 (w.heap.size + 1) r 3 _ _ _ rfl hrg ?_ ?_)
    · intro hc0 hl0
      have hcv := HCS.out hl0
      clear hl0 HCS
      go_wp2
      go_ret2
      exact ⟨y, m, d, rfl, HD.out, HR.out.bel⟩
    · intro x c w1 cnt1 hwx hwc hlx hat hrg1 hlt hg1 hs1 hen
      obtain ⟨k, n, c3, c6, c9, rfl, rfl, hn, hk, hfill, e3, e6, e9⟩ := key_step hy hy0 hm hd HR.out.l3 HR.out.l6 HR.out.l9 hlx hat
      have HN := Lib.hid (show ∀ T, rowS c3 c6 c9 y (m + 1) (d + 1) = T → ∀ wx, Row10 wx w.heap.size T → wx.ranges Tryz.prog 3 (plainElem (H := Value) Tryz.prog 3) (w.heap.size + 1) r 3 (map3 (y : Int) ((m : Int) + 1) ((d : Int) + 1)) (fun z => left z && !z.sameKey (.int .i64 ((k : Int) - 1))) cnt1 → Below w.heap.size w wx → DR w wx r y m d c3 c6 c9 (fun z => left z && !z.sameKey (.int .i64 ((k : Int) - 1))) cnt1 from
        fun T hT wx q1 q2 q3 => ⟨q2, e3, e6, e9, by rw [hT]; exact q1, q3⟩)
      have HI := Lib.hid (show fillD k n (rowS b3 b6 b9 y (m + 1) (d + 1)) = rowS c3 c6 c9 y (m + 1) (d + 1) ∧ Row10 w1 w.heap.size (rowS b3 b6 b9 y (m + 1) (d + 1)) ∧ w1.ranges Tryz.prog 3 (plainElem (H := Value) Tryz.prog 3) (w.heap.size + 1) r 3 (map3 (y : Int) ((m : Int) + 1) ((d : Int) + 1)) (fun z => left z && !z.sameKey (.int .i64 ((k : Int) - 1))) cnt1 ∧ Below w.heap.size w w1 from
        ⟨hfill, HR.out.row.keep (hg1.block _ HR.out.row.lt (fun e => by have := Option.some.inj e; omega)), hrg1, HR.out.bel.grown hg1 HR.out.bel.size (fun j hj => by cases hj; omega)⟩)
      have HLT := Lib.hid (show cnt1 < wr.rangeLeft (w.heap.size + 1) r from by rw [hrg.left_eq]; exact hlt)
      generalize rowS c3 c6 c9 y (m + 1) (d + 1) = T at *
      generalize rowS b3 b6 b9 y (m + 1) (d + 1) = S0 at *
      generalize (fun z : Lit => left z && !z.sameKey (.int .i64 ((k : Int) - 1))) = left1 at *
      clear hwx hwc hlx hat hrg1 hlt hg1 hs1 hfill e3 e6 e9 hrg HR HCS
      have hn64 : n ≤ 9999999999 := by
        have := Nat.pow_le_pow_right (n := 10) (by decide) hk
        omega
      obtain ⟨wo, rfl⟩ : ∃ wo : World, wo = wr := ⟨_, rfl⟩
      go_wp2
      go_loopw [8, 9] (fun iv nv wr => ∃ (k n : Nat) (S : List UInt8), iv = .int .i64 ((k : Int) - 1) ∧ nv = .int .i64 (n : Nat) ∧ n < 10 ^ k ∧ k ≤ 10 ∧ n ≤ 9999999999 ∧ Hid (fillD k n S = T ∧ Row10 wr w.heap.size S ∧ wr.ranges Tryz.prog 3 (plainElem (H := Value) Tryz.prog 3) (w.heap.size + 1) r 3 (map3 (y : Int) ((m : Int) + 1) ((d : Int) + 1)) left1 cnt1 ∧ Below w.heap.size w wr)) (fun _ nv _ => (intOf nv).toNat)
      case atStart => exact ⟨k, n, S0, rfl, rfl, hn, hk, hn64, HI⟩
      case round =>
        clear HI hn hk hn64 hen
        obtain ⟨k, n, S, rfl, rfl, hn, hk, hn64, HI⟩ := hrel
        by_cases h0 : n = 0
        · subst h0
          have HD2 := Lib.hid (HN.out T rfl wr (by have := HI.out; rw [fillD_zero] at this; exact this.1 ▸ this.2.1) HI.out.2.2.1 HI.out.2.2.2)
          clear HI HN
          go_wp2
          go_roundw
          case rel => exact ⟨left1, cnt1, c3, c6, c9, HD2⟩
          case measure => rw [HD2.out.rng.left_eq]; exact HLT.out
        · obtain ⟨k', rfl⟩ : ∃ k', k = k' + 1 := ⟨k - 1, by
            rcases k with _ | k
            · simp at hn; omega
            · rfl⟩
          have hS10 := HI.out.2.1.1
          have hkS : k' < S.length := by omega
          have hc := HI.out.2.1.cell hkS
          have hf := HI.out.2.1.frozen (i := k') (by omega)
          have ek : ((k' + 1 : Nat) : Int) - 1 = (k' : Int) := by omega
          have hsum := u8_sum S[k'] n
          have hw10 : IntKind.u8.wrap ((n % 10 : Nat) : Int) = ((n % 10 : Nat) : Int) := IntWalk.u8_in _ (by omega)
          have e10 : (n : Int).tmod 10 = ((n % 10 : Nat) : Int) := rfl
          have ed : (n : Int).tdiv 10 = ((n / 10 : Nat) : Int) := rfl
          have hpos : 0 < (n : Int) := by omega
          have hn1 : n / 10 < 10 ^ k' := by
            rw [Nat.pow_succ] at hn
            exact Nat.div_lt_of_lt_mul (by rw [Nat.mul_comm]; exact hn)
          have HI2 := Lib.hid (show fillD k' (n / 10) (S.set k' (S[k'] + UInt8.ofNat (n % 10))) = T ∧ Row10 (wr.setCell ⟨w.heap.size, k', none⟩ (.int .u8 (((S[k'] + UInt8.ofNat (n % 10)).toNat : Nat) : Int))) w.heap.size (S.set k' (S[k'] + UInt8.ofNat (n % 10))) ∧ (wr.setCell ⟨w.heap.size, k', none⟩ (.int .u8 (((S[k'] + UInt8.ofNat (n % 10)).toNat : Nat) : Int))).ranges Tryz.prog 3 (plainElem (H := Value) Tryz.prog 3) (w.heap.size + 1) r 3 (map3 (y : Int) ((m : Int) + 1) ((d : Int) + 1)) left1 cnt1 ∧ Below w.heap.size w (wr.setCell ⟨w.heap.size, k', none⟩ (.int .u8 (((S[k'] + UInt8.ofNat (n % 10)).toNat : Nat) : Int))) from by
            obtain ⟨i1, i2, i3, i4⟩ := HI.out
            have hg := grown_set wr w.heap.size k' (.int .u8 (((S[k'] + UInt8.ofNat (n % 10)).toNat : Nat) : Int))
            refine ⟨?_, i2.set k' _, i3.kept hg (fun e => by have := Option.some.inj e; omega) (fun e => by have := Option.some.inj e; omega), i4.grown hg i4.size (fun j hj => by cases hj; exact Nat.le_refl _)⟩
            rw [fillD_pos _ _ _ h0, List.getD_eq_getElem?_getD, List.getElem?_eq_getElem hkS] at i1
            exact i1)
          rw [ek]
          clear HI
          generalize S.set k' (S[k'] + UInt8.ofNat (n % 10)) = S2 at *
          generalize (S[k'] + UInt8.ofNat (n % 10)).toNat = cn at *
          generalize S[k'].toNat = cs at *
          generalize n % 10 = nm at *
          have hnq : n / 10 < n := by omega
          generalize hq : n / 10 = nq at *
          clear hq
          go_wp2
          go_roundw
          case rel => exact ⟨k', nq, S2, rfl, rfl, hn1, by omega, by omega, HI2⟩
          case measure => simp [intOf]; omega
end Go.Proofs.YtpeepdkeicgkiaaGreatDoor
namespace Go.Proofs.YtpeepdkeicgkiaaGreatDoor
set_option linter.unusedVariables false
set_option linter.unusedSimpArgs false
set_option linter.unusedSectionVars false
open Go.RowKit Go.Maps Go.Shelf Go.Lib Go.Sort

structure WhenS (l : List Man) (k : Nat) (D : Dk) (n : Nat) : Prop where
  rest : Rest D 1048576 k k 2200
  named : Named D
  le : D.folder.length ≤ n
  pos : 0 < n → 0 < D.folder.length
  nk : n ≤ k
theorem WhenS.zero (l : List Man) : WhenS l 0 (dkNew 1048576) 0 := ⟨Rest.new _ (by decide) _, Named.new _, Nat.le_refl _, fun h => absurd h (by decide), Nat.le_refl _⟩
theorem WhenS.bad {l : List Man} {k n : Nat} {D : Dk} (h : WhenS l k D n) {m : Man} (hg : ¬ goodM (fewM m) = true) : WhenS l (k + 1) (D.pubM (fewM m)) n := by
  have e : D.pubM (fewM m) = D := by unfold Dk.pubM; rw [if_neg hg]
  rw [e]
  exact ⟨h.rest.mono (by omega) (by omega), h.named, h.le, h.pos, by have := h.nk; omega⟩
theorem WhenS.good {l : List Man} {k n : Nat} {D : Dk} (h : WhenS l k D n) {m : Man} (hg : goodM (fewM m) = true) : WhenS l (k + 1) (D.pubM (fewM m)) (n + 1) := by
  have hr := pubM_rest h.rest m
  refine ⟨hr, pubM_named h.rest.ok h.named _, ?_, fun _ => ?_, by have := h.nk; omega⟩
  · unfold Dk.pubM
    rw [if_pos hg]
    unfold Dk.pubR
    split
    · exact Nat.le_succ_of_le h.le
    · exact Nat.le_trans (kvPut_len _ _ _) (Nat.succ_le_succ h.le)
  · have hs := (pub_some h.rest.ok hg (frontS ++ idM m)).2 (.inl rfl)
    have hm := (has_mem hr.ok.fap _).1 hs
    rw [← kvNames_len]
    exact List.length_pos_of_mem hm
theorem sortSn_sorted (l : List Sn) : (sortSn l).Pairwise fun x y => ¬ ltSn y x := by
  have h := List.pairwise_mergeSort (le := fun x y : Sn => !(ltOf cmpSn) y x) (fun a b c h1 h2 => by
      simp only [Bool.not_eq_true'] at h1 h2 ⊢
      exact swoSn.ntrans c b a h2 h1) (fun a b => by
      by_cases h : ltOf cmpSn b a = true
      · have h2 : ltOf cmpSn a b = false := by
          rw [ltOf_snf]
          intro h3
          have h4 := swoSn.trans a b a ((ltOf_sn a b).2 h3) h
          rw [swoSn.irrefl] at h4
          cases h4
        simp [h2]
      · rw [Bool.not_eq_true] at h
        simp [h]) l
  exact h.imp fun {x y} hxy => by
    have : ltOf cmpSn y x = false := by simpa using hxy
    exact (ltOf_snf y x).1 this
/-- what is known of the snapshots that are listed -/
structure Listed (D : Dk) (sn : List Sn) : Prop where
  man : ∀ x ∈ sn, ∃ m, goodM m = true ∧ D.mload x.id = (m, 0) ∧ m.time = (x.t : Int) ∧ D.tagOf x.id = m.tag ∧ x.t ≤ 253402300799 ∧ x.id.size = 64
  up : ∀ i j, (hi : i < sn.length) → (hj : j < sn.length) → i < j → sn[i].t ≤ sn[j].t
theorem Named.listed {D : Dk} (h : Named D) (hd : D.dead = false) (ha : kvApart D.folder) : Listed D D.snaps := by
  refine ⟨fun x hx => ?_, fun i j hi hj hij => ?_⟩
  · obtain ⟨h1, h2⟩ := h.snaps_mem hd ha hx
    obtain ⟨m, hg, _, hl, hid⟩ := h.load hd h1
    have ht := (good_parts hg).1
    have htx : x.t = min (D.mload x.id).1.time.toNat 1099511627776 := by rw [h2]; rfl
    rw [hl] at htx
    simp only at htx
    refine ⟨m, hg, hl, by omega, by unfold Dk.tagOf; rw [hl], by omega, by rw [hid]; exact nameS_size _⟩
  · have h1 := List.pairwise_iff_getElem.1 (sortSn_sorted (D.goodsL (D.names frontS))) i j hi hj hij
    by_cases h2 : D.snaps[i].t ≤ D.snaps[j].t
    · exact h2
    · exact absurd (.inl (by show D.snaps[j].t < D.snaps[i].t; omega)) h1
end Go.Proofs.YtpeepdkeicgkiaaGreatDoor
