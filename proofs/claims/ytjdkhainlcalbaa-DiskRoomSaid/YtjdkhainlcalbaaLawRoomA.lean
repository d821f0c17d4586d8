/- The law DiskRoom: the walk. -/
import Derived.Test.YtjdkhainlcalbaaLawRoom
namespace Go.Proofs.Ytjdkhainlcalbaa
open Go.RowKit Go.Maps

theorem RowInt.opened {w : World} {v : Value} {ks : List Int} (h : RowInt w v ks) : ∃ a c, v = .slice a ks.length c ∧ ∀ k (hk : k < ks.length), ∃ g o, a = some ⟨g, o, none⟩ ∧ g < w.heap.size ∧ w.cell? ⟨g, o + k, none⟩ = some (.int .i64 ks[k]) := by
  rcases h with ⟨⟨a, c, rfl⟩, rfl⟩ | ⟨g, o, cap, rfl, hc⟩
  · exact ⟨a, c, rfl, fun k hk => by simp at hk⟩
  · exact ⟨_, cap, rfl, fun k hk => ⟨g, o, rfl, (cell_lt (hc k hk) : (⟨g, o + k, none⟩ : Addr).block < _), hc k hk⟩⟩

set_option maxHeartbeats 1600000 in
set_option maxRecDepth 100000 in
theorem room_out (room : Int) (v : Value) (w : World) (h : room < 0 ∨ 5000 < room) :
    Calls Try.prog 5 #[.int .i64 room, v] w fun e w' => e = .returned (.bool true) ∧ Below w.heap.size w w' := by
  have HA := Lib.hid fun w' => awake14_any w'
  rcases (by omega : room < 0 ∨ (0 ≤ room ∧ 5000 < room)) with h1 | ⟨h1, h2⟩
  all_goals
    clear h
    go_enter Try.func5, Try.ntmps5
    go_wp2_with fail
    refine (HA.out w).mono ?_
    rintro e w2 ⟨rfl, hb⟩
    go_wp2
    go_ret
    exact ⟨rfl, hb⟩

set_option maxHeartbeats 3200000 in
set_option maxRecDepth 100000 in
theorem room_in (room : Nat) (ks : List Int) (v : Value) (w : World) (hr : room ≤ 5000) (hv : RowInt w v ks) (hkl : ks.length ≤ 9223372036854775807) :
    Calls Try.prog 5 #[.int .i64 room, v] w fun e w' => e = .returned (.bool true) ∧ Below w.heap.size w w' := by
  have HN := Lib.hid (newUp room w w (Below.refl _ _) (by omega))
  have HA := Lib.hid fun w' => awake14_any w'
  obtain ⟨va, vc, rfl, hcell⟩ := hv.opened
  have HV := Lib.hid hcell
  clear hcell hv
  go_enter Try.func5, Try.ntmps5
  go_wp2_with fail
  refine HN.out.mono ?_
  rintro e w1 ⟨b, L, rfl, hu⟩
  have HU := Lib.hid hu
  clear hu HN
  go_wp2
  go_loopw [7, 8] (fun u i wr => ∃ k t : Nat, ∃ D L, k ≤ 30 ∧ k ≤ ks.length ∧ t ≤ room ∧ i = .int .i64 k ∧ u = .int .i64 t ∧ RoomI room k t D ∧ DkUp w wr b D L) (fun _ i _ => 30 - (intOf i).toNat)
  case atStart => exact ⟨0, 0, _, L, by omega, by omega, by omega, rfl, rfl, ⟨rfl, rfl, rfl, rfl, fun p hp => by simp [dkNew] at hp, Nat.le_refl _, Nat.le_refl _⟩, HU.out⟩
  case round =>
    obtain ⟨k, t, D, L, hk, hkl2, ht, rfl, rfl, hri, hu⟩ := hrel
    have HU := Lib.hid hu
    have HR := Lib.hid hri
    clear hu hri
    by_cases hlt : k < ks.length ∧ k < 30
    · obtain ⟨hl1, hl2⟩ := hlt
      obtain ⟨g, o, rfl, hg, hc⟩ := HV.out k hl1
      have hcr : wr.cell? ⟨g, o + k, none⟩ = some (.int .i64 ks[k]) := (HU.out.bel.cell (p := ⟨g, o + k, none⟩) hg).trans hc
      clear hc
      generalize ks[k] = n at hcr
      rcases (by omega : n < 0 ∨ (0 ≤ n ∧ 2000 < n) ∨ (0 ≤ n ∧ n ≤ 2000)) with h1 | ⟨h1, h2⟩ | ⟨h1, h2⟩
      · go_wp2
        go_roundw
        case rel => exact ⟨k + 1, t, D, L, by omega, by omega, ht, by go_num, rfl, HR.out.next, HU.out⟩
        case measure => simp [intOf]; omega
      · go_wp2
        go_roundw
        case rel => exact ⟨k + 1, t, D, L, by omega, by omega, ht, by go_num, rfl, HR.out.next, HU.out⟩
        case measure => simp [intOf]; omega
      · obtain ⟨m, rfl⟩ := Int.eq_ofNat_of_zero_le h1
        have hcb := one_byte wr k hl2
        have HB := Lib.hid hcb
        clear hcb
        go_upto_region 13 with (rw [HB.out])
        have hbl0 : Below wr.heap.size wr (wr.alloc (.cells #[.int .u8 (97 + (k : Int))] 5)) := (Below.refl _ wr).alloc (Nat.le_refl _) _
        generalize wr.alloc (.cells #[.int .u8 (97 + (k : Int))] 5) = w2 at *
        have HU2 := Lib.hid (HU.out.up hbl0)
        clear hbl0 HB HU
        obtain ⟨wm, hmk, hbm, hcv⟩ := make_zeros w2 m (by omega)
        have HU3 := Lib.hid (HU2.out.up hbm)
        clear hbm HU2
        have hm3 : ((k : Int)).tmod 3 = ((k % 3 : Nat) : Int) := rfl
        by_cases hfit : t + m ≤ room
        · obtain ⟨h5, h6, h7⟩ := room_yes HR.out HU3.out.at'.ok hl2 hfit
          have h8 := room_rem HR.out HU3.out.at'.ok hl2 hfit
          have H1 := appendUp (nmB k) (zeroB m) HU3.out (by show (1 : Nat) ≤ _; decide) (by rw [zeroB_size]; omega) (HR.out.small (by omega))
          rw [h5] at H1
          have HC := Lib.hid H1
          have H6 := Lib.hid h6
          have H7 := Lib.hid h7
          have H8 := Lib.hid h8
          clear h5 h6 h7 h8 H1
          generalize zeroB m = z at *
          go_wp2_with fail
          refine HC.out.mono ?_
          rintro e w4 ⟨rfl, L4, hu4⟩
          have HU4 := Lib.hid hu4
          clear hu4 HC HU3
          have H1 := usedUp HU4.out (H6.out.small (by omega))
          rw [H6.out.used] at H1
          have HC := Lib.hid H1
          clear H1
          go_wp2_with fail
          refine HC.out.mono ?_
          rintro e w5 ⟨rfl, hu5⟩
          have HU5 := Lib.hid hu5
          clear hu5 HC HU4
          by_cases h2m : k % 3 = 2
          · rw [h2m] at hm3
            have H1 := removeUp (nmB k) HU5.out (by show (1 : Nat) ≤ _; decide) (H6.out.small (by omega))
            rw [H7.out] at H1
            have HC := Lib.hid H1
            clear H1 h2m
            go_wp2_with fail
            refine HC.out.mono ?_
            rintro e w6 ⟨rfl, L6, hu6⟩
            have HU6 := Lib.hid hu6
            clear hu6 HC HU5
            go_wp2
            go_roundw
            case rel => exact ⟨k + 1, t, _, L6, by omega, by omega, by omega, by go_num, by go_num, H8.out, HU6.out⟩
            case measure => simp [intOf]; omega
          · have h3m : (((k % 3 : Nat) : Int) == 2) = false := by simp; omega
            clear h2m
            go_wp2
            go_roundw
            case rel => exact ⟨k + 1, t + m, _, L4, by omega, by omega, by omega, by go_num, by go_num, H6.out, HU5.out⟩
            case measure => simp [intOf]; omega
        · have h5 := room_no HR.out hl2 hfit
          have H1 := appendUp (nmB k) (zeroB m) HU3.out (by show (1 : Nat) ≤ _; decide) (by rw [zeroB_size]; omega) (HR.out.small (by omega))
          rw [h5] at H1
          have HC := Lib.hid H1
          clear h5 H1
          generalize zeroB m = z at *
          go_wp2_with fail
          refine HC.out.mono ?_
          rintro e w4 ⟨rfl, L4, hu4⟩
          have HU4 := Lib.hid hu4
          clear hu4 HC HU3
          have H1 := usedUp HU4.out (HR.out.small (by omega))
          rw [HR.out.used] at H1
          have HC := Lib.hid H1
          clear H1
          go_wp2_with fail
          refine HC.out.mono ?_
          rintro e w5 ⟨rfl, hu5⟩
          have HU5 := Lib.hid hu5
          clear hu5 HC HU4
          go_wp2
          go_roundw
          case rel => exact ⟨k + 1, t, _, L4, by omega, by omega, by omega, by go_num, rfl, HR.out.next, HU5.out⟩
          case measure => simp [intOf]; omega
    · have hsm := HR.out.small hk
      rcases (by omega : ¬ k < ks.length ∨ (k < ks.length ∧ ¬ k < 30)) with h1 | ⟨h1, h2⟩
      all_goals
        go_wp2_with fail
        refine (HA.out wr).mono ?_
        rintro e w2 ⟨rfl, hb⟩
        have H1 := usedUp (HU.out.up hb) hsm
        rw [HR.out.used] at H1
        have HC := Lib.hid H1
        clear H1 hb
        go_wp2_with fail
        refine HC.out.mono ?_
        rintro e w3 ⟨rfl, hu3⟩
        have HU3 := Lib.hid hu3
        clear hu3 HC
        go_wp2
        go_ret
        exact ⟨rfl, HU3.out.bel⟩

theorem room_all (room : Int) (ks : List Int) (v : Value) (w : World) (hv : RowInt w v ks) (hk : KeepsOk ks) :
    Calls Try.prog 5 #[.int .i64 room, v] w fun e w' => e = .returned (.bool true) ∧ Below w.heap.size w w' := by
  by_cases h : room < 0 ∨ 5000 < room
  · exact room_out room v w h
  · obtain ⟨R, rfl⟩ := Int.eq_ofNat_of_zero_le (show 0 ≤ room by omega)
    exact room_in R ks v w (by omega) hv hk.1
end Go.Proofs.Ytjdkhainlcalbaa
