/- The law DiskDies: the walk. -/
import Derived.Test.YtjdkhainlcalbaaLawDies
namespace Go.Proofs.Ytjdkhainlcalbaa
open Go.RowKit Go.Maps

set_option maxHeartbeats 1600000 in
set_option maxRecDepth 100000 in
theorem dies_out (n calls : Int) (w : World) (h : n < 0 ∨ 60 < n ∨ calls < 0 ∨ 60 < calls) :
    Calls Try.prog 7 #[.int .i64 n, .int .i64 calls] w fun e w' => e = .returned (.bool true) ∧ Below w.heap.size w w' := by
  have HN := Lib.hid (newUp 1000 w w (Below.refl _ _) (by decide))
  have HA := Lib.hid fun w' => awake14_any w'
  rcases (by omega : n < 0 ∨ (0 ≤ n ∧ 60 < n) ∨ (0 ≤ n ∧ n ≤ 60 ∧ calls < 0) ∨ (0 ≤ n ∧ n ≤ 60 ∧ 0 ≤ calls ∧ 60 < calls)) with h1 | ⟨h1, h2⟩ | ⟨h1, h2, h3⟩ | ⟨h1, h2, h3, h4⟩
  all_goals
    clear h
    go_enter Try.func7, Try.ntmps7
    go_wp2_with fail
    refine HN.out.mono ?_
    rintro e w1 ⟨b, L, rfl, hu⟩
    have HB := Lib.hid hu.bel
    clear hu HN
    go_wp2_with fail
    refine (HA.out w1).mono ?_
    rintro e w2 ⟨rfl, hb⟩
    go_wp2
    go_ret
    exact ⟨rfl, HB.out.trans (hb.mono HB.out.size)⟩

set_option maxHeartbeats 3200000 in
set_option maxRecDepth 100000 in
theorem dies_in (n calls : Nat) (w : World) (hn : n ≤ 60) (hc : calls ≤ 60) :
    Calls Try.prog 7 #[.int .i64 n, .int .i64 calls] w fun e w' => e = .returned (.bool true) ∧ Below w.heap.size w w' := by
  have HN := Lib.hid (newUp 1000 w w (Below.refl _ _) (by decide))
  have HA := Lib.hid fun w' => awake14_any w'
  go_enter Try.func7, Try.ntmps7
  go_wp2_with fail
  refine HN.out.mono ?_
  rintro e w1 ⟨b, L, rfl, hu⟩
  have HU := Lib.hid hu
  clear hu HN
  have H1 := armUp (n : Int) HU.out (by omega)
  rw [dieS_zero] at H1
  have HC := Lib.hid H1
  clear H1
  go_wp2_with fail
  refine HC.out.mono ?_
  rintro e w2 ⟨rfl, hu2⟩
  clear HC HU
  have HU2 := Lib.hid hu2
  clear hu2 L w1
  go_wp2
  go_loopw [7, 8] (fun g i wr => ∃ k : Nat, k ≤ calls ∧ i = .int .i64 k ∧ g = .int .i64 ((min k n : Nat) : Int) ∧ ∃ L, DkUp w wr b (dieS n k) L) (fun _ i _ => calls - (intOf i).toNat)
  case atStart => exact ⟨0, Nat.zero_le _, rfl, by rw [Nat.zero_min]; rfl, HU2.out⟩
  case round =>
    obtain ⟨k, hk, rfl, rfl, L, hu⟩ := hrel
    have HU := Lib.hid hu
    clear hu
    by_cases hlt : k < calls
    · have H1 := appendUp nA chX HU.out (by decide) (by decide) (dieS_small n k hn)
      rw [dieS_step n k hn] at H1
      by_cases hkn : k < n
      · rw [if_pos hkn] at H1
        have HC := Lib.hid H1
        clear H1
        have hm : min k n = k := by omega
        have hm1 : min (k + 1) n = k + 1 := by omega
        rw [hm]
        clear hm
        go_wp2_with fail
        refine HC.out.mono ?_
        rintro e w3 ⟨rfl, hu3⟩
        clear HC HU
        have HU3 := Lib.hid hu3
        clear hu3
        go_wp2
        go_roundw
        case rel => exact ⟨k + 1, by omega, by go_num, by rw [hm1]; go_num, HU3.out⟩
        case measure => simp [intOf]; omega
      · rw [if_neg hkn] at H1
        have HC := Lib.hid H1
        clear H1
        have hm : min k n = n := by omega
        have hm1 : min (k + 1) n = n := by omega
        rw [hm]
        clear hm
        go_wp2_with fail
        refine HC.out.mono ?_
        rintro e w3 ⟨rfl, hu3⟩
        clear HC HU
        have HU3 := Lib.hid hu3
        clear hu3
        go_wp2
        go_roundw
        case rel => exact ⟨k + 1, by omega, by go_num, by rw [hm1], HU3.out⟩
        case measure => simp [intOf]; omega
    · obtain rfl : k = calls := by omega
      clear HU2
      have H1 := usedUp HU.out (dieS_small n k hn)
      rw [dieS_used n k hn] at H1
      have HC := Lib.hid H1
      clear H1
      by_cases hkn : k ≤ n
      · have hm : min k n = k := by omega
        rw [hm] at HC ⊢
        have hm2 : min (n : Int) (k : Int) = (k : Int) := by omega
        clear hm
        go_wp2_with fail
        refine HC.out.mono ?_
        rintro e w3 ⟨rfl, hu3⟩
        clear HC HU
        have HU := Lib.hid hu3
        clear hu3
        have HC := Lib.hid (readUp nA HU.out (by decide))
        go_wp2_with fail
        refine HC.out.mono ?_
        rintro e w4 ⟨rfl, rfl⟩
        clear HC
        go_wp2_with fail
        refine (crashUp [1] _ (HU.out.up ((Below.refl _ w3).alloc (Nat.le_refl _) _)) (row_one w3 1 _) ⟨by decide, by decide⟩ (dieS_small n k hn)).mono ?_
        rintro e w5 ⟨rfl, L5, hu5⟩
        clear HU
        have HU := Lib.hid hu5
        clear hu5
        go_wp2_with fail
        refine (HA.out w5).mono ?_
        rintro e w6 ⟨rfl, hb6⟩
        have HU6 := Lib.hid (HU.out.up hb6)
        clear hb6 HU
        have H1 := appendUp nB ⟨#[121]⟩ HU6.out (by decide) (by decide) (dieS_small2 n k hn)
        rw [dieS_crash n k hn] at H1
        have HC := Lib.hid H1
        clear H1
        go_wp2_with fail
        refine HC.out.mono ?_
        rintro e w7 ⟨rfl, L7, hu7⟩
        have HU7 := Lib.hid hu7
        clear hu7
        go_wp2
        go_ret
        exact ⟨rfl, HU7.out.bel⟩
      · have hm : min k n = n := by omega
        rw [hm] at HC ⊢
        have hm2 : min (n : Int) (k : Int) = (n : Int) := by omega
        clear hm
        go_wp2_with fail
        refine HC.out.mono ?_
        rintro e w3 ⟨rfl, hu3⟩
        clear HC HU
        rw [dieS_late n k (by omega)] at hu3
        have HU := Lib.hid hu3
        clear hu3
        have H1 := readUp nA HU.out (by decide)
        rw [read_dead'] at H1
        have HC := Lib.hid H1
        clear H1
        go_wp2_with fail
        refine HC.out.mono ?_
        rintro e w4 ⟨rfl, rfl⟩
        clear HC
        have H1 := settleUp HU.out
        rw [settle_dead'] at H1
        have HC := Lib.hid H1
        clear H1
        go_wp2_with fail
        refine HC.out.mono ?_
        rintro e w4 ⟨rfl, L4, hu4⟩
        clear HC HU
        have HU := Lib.hid hu4
        clear hu4
        have hsm := dieS_small n k hn
        rw [dieS_late n k (by omega)] at hsm
        have H1 := renameUp nA nB HU.out (by decide) (by decide) hsm
        rw [rename_dead'] at H1
        have HC := Lib.hid H1
        clear H1
        go_wp2_with fail
        refine HC.out.mono ?_
        rintro e w4 ⟨rfl, L4, hu4⟩
        clear HC HU
        have HU := Lib.hid hu4
        clear hu4
        have HSM := Lib.hid hsm
        clear hsm
        go_wp2_with fail
        refine (crashUp [1] _ (HU.out.up ((Below.refl _ w4).alloc (Nat.le_refl _) _)) (row_one w4 1 _) ⟨by decide, by decide⟩ HSM.out).mono ?_
        rintro e w5 ⟨rfl, L5, hu5⟩
        clear HU
        have HU := Lib.hid hu5
        clear hu5
        go_wp2_with fail
        refine (HA.out w5).mono ?_
        rintro e w6 ⟨rfl, hb6⟩
        have HU6 := Lib.hid (HU.out.up hb6)
        clear hb6 HU
        have hsm2 := dieS_small2 n k hn
        rw [dieS_late n k (by omega)] at hsm2
        have H1 := appendUp nB ⟨#[121]⟩ HU6.out (by decide) (by decide) hsm2
        have hcr := dieS_crash n k hn
        rw [dieS_late n k (by omega)] at hcr
        rw [hcr] at H1
        have HC := Lib.hid H1
        clear H1 hcr hsm2
        go_wp2_with fail
        refine HC.out.mono ?_
        rintro e w7 ⟨rfl, L7, hu7⟩
        have HU7 := Lib.hid hu7
        clear hu7
        go_wp2
        go_ret
        exact ⟨rfl, HU7.out.bel⟩

theorem dies_all (n calls : Int) (w : World) :
    Calls Try.prog 7 #[.int .i64 n, .int .i64 calls] w fun e w' => e = .returned (.bool true) ∧ Below w.heap.size w w' := by
  by_cases h : n < 0 ∨ 60 < n ∨ calls < 0 ∨ 60 < calls
  · exact dies_out n calls w h
  · obtain ⟨N, rfl⟩ := Int.eq_ofNat_of_zero_le (show 0 ≤ n by omega)
    obtain ⟨C, rfl⟩ := Int.eq_ofNat_of_zero_le (show 0 ≤ calls by omega)
    exact dies_in N C w (by omega) (by omega)
end Go.Proofs.Ytjdkhainlcalbaa
