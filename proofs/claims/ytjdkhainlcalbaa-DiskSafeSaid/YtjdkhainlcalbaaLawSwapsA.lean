/- The law DiskSwaps: the walk. -/
import Derived.Test.YtjdkhainlcalbaaLawSwaps
import Derived.Test.YtjdkhainlcalbaaLawDies
namespace Go.Proofs.Ytjdkhainlcalbaa
open Go.RowKit Go.Maps

/-- a text cut to so many bytes -/
def cutB (n : Nat) (s : ByteArray) : ByteArray := if n < s.size then s.extract 0 n else s
theorem cutB_le (n : Nat) (s : ByteArray) : (cutB n s).size ≤ n := by
  unfold cutB
  split
  · rw [ByteArray.size_extract]; omega
  · omega

set_option maxHeartbeats 3200000 in
set_option maxRecDepth 100000 in
theorem swaps_any (old fresh : ByteArray) (settle : Bool) (ks : List Int) (v : Value) (w : World) (ho : old.size ≤ 9223372036854775807) (hf : fresh.size ≤ 9223372036854775807) (hv : RowInt w v ks) (hk : KeepsOk ks) :
    Calls Try.prog 6 #[.string old, .string fresh, .bool settle, v] w fun e w' => e = .returned (.bool true) ∧ Below w.heap.size w w' := by
  have HN := Lib.hid (newUp 1000 w w (Below.refl _ _) (by decide))
  have HA := Lib.hid fun w' => awake14_any w'
  have HV := Lib.hid hv
  have HK := Lib.hid hk
  clear hv hk
  go_enter Try.func6, Try.ntmps6
  go_upto_if 15 with (fail)
  go_cut [0] (fun s0 wc => s0 = .string (cutB 100 old) ∧ w = wc)
  case first =>
    by_cases h : 100 < old.size
    · have e : cutB 100 old = old.extract 0 100 := if_pos h
      have E := Lib.hid e
      clear e
      go_wp2_with (fail)
      go_meet
      exact ⟨by rw [E.out], rfl⟩
    · have e : cutB 100 old = old := if_neg h
      have E := Lib.hid e
      clear e
      go_wp2_with (fail)
      go_meet
      exact ⟨by rw [E.out], rfl⟩
  case rest =>
    obtain ⟨rfl, rfl⟩ := hcut
    go_upto_if 20 with (fail)
    go_cut [1] (fun s0 wc => s0 = .string (cutB 100 fresh) ∧ w = wc)
    case first =>
      by_cases h : 100 < fresh.size
      · have e : cutB 100 fresh = fresh.extract 0 100 := if_pos h
        have E := Lib.hid e
        clear e
        go_wp2_with (fail)
        go_meet
        exact ⟨by rw [E.out], rfl⟩
      · have e : cutB 100 fresh = fresh := if_neg h
        have E := Lib.hid e
        clear e
        go_wp2_with (fail)
        go_meet
        exact ⟨by rw [E.out], rfl⟩
    case rest =>
      obtain ⟨rfl, rfl⟩ := hcut
      have ho2 := cutB_le 100 old
      have hf2 := cutB_le 100 fresh
      generalize cutB 100 old = o at *
      generalize cutB 100 fresh = f at *
      clear ho hf
      have HO := Lib.hid (And.intro ho2 hf2)
      clear ho2 hf2
      go_wp2_with fail
      refine HN.out.mono ?_
      rintro e w1 ⟨b, L, rfl, hu⟩
      have HU := Lib.hid hu
      clear hu HN
      have H1 := appendUp nA o HU.out (by decide) (by have := HO.out.1; omega) ⟨by decide, by decide⟩
      rw [sw_1 o HO.out.1] at H1
      have HC := Lib.hid H1
      clear H1
      go_wp2_with fail
      refine HC.out.mono ?_
      rintro e w2 ⟨rfl, L2, hu2⟩
      clear HC HU
      have HU := Lib.hid hu2
      clear hu2
      have H1 := syncUp nA HU.out (by decide)
      rw [sw_2] at H1
      have HC := Lib.hid H1
      clear H1
      go_wp2_with fail
      refine HC.out.mono ?_
      rintro e w3 ⟨rfl, L3, hu3⟩
      clear HC HU
      have HU := Lib.hid hu3
      clear hu3
      have H1 := settleUp HU.out
      rw [sw_3] at H1
      have HC := Lib.hid H1
      clear H1
      go_wp2_with fail
      refine HC.out.mono ?_
      rintro e w4 ⟨rfl, L4, hu4⟩
      clear HC HU
      have HU := Lib.hid hu4
      clear hu4
      have H1 := appendUp nB f HU.out (by decide) (by have := HO.out.2; omega) ⟨by show 1 ≤ _; decide, by show 0 ≤ _; decide⟩
      rw [sw_4 o f HO.out.1 HO.out.2] at H1
      have HC := Lib.hid H1
      clear H1
      go_wp2_with fail
      refine HC.out.mono ?_
      rintro e w5 ⟨rfl, L5, hu5⟩
      clear HC HU
      have HU := Lib.hid hu5
      clear hu5
      have H1 := syncUp nB HU.out (by decide)
      rw [sw_5] at H1
      have HC := Lib.hid H1
      clear H1
      go_wp2_with fail
      refine HC.out.mono ?_
      rintro e w6 ⟨rfl, L6, hu6⟩
      clear HC HU
      have HU := Lib.hid hu6
      clear hu6
      have H1 := renameUp nB nA HU.out (by decide) (by decide) ⟨by show 2 ≤ _; decide, by show 1 ≤ _; decide⟩
      rw [sw_6] at H1
      have HC := Lib.hid H1
      clear H1
      cases settle with
      | false =>
        go_wp2_with fail
        refine HC.out.mono ?_
        rintro e w7 ⟨rfl, L7, hu7⟩
        clear HC HU
        have HU := Lib.hid hu7
        clear hu7
        go_wp2_with fail
        refine (crashUp ks v HU.out (HV.out.below HU.out.bel) HK.out ⟨by show 2 ≤ _; decide, by show 2 ≤ _; decide⟩).mono ?_
        rintro e w8 ⟨rfl, L8, hu8⟩
        clear HU
        obtain ⟨s, hs1, hs2, hs3⟩ := sw_read o f ks
        have hsm := small_crash (D := swD o f) ks (by show 1 + 2 ≤ _; decide)
        have hul := used_le hu8.at'.ok (Nat.le_trans hsm.1 (by decide))
        have HU := Lib.hid hu8
        clear hu8
        have H1 := readUp nA HU.out (by decide)
        rw [hs1] at H1
        have HC := Lib.hid H1
        clear H1 hs1
        go_wp2_with fail
        refine HC.out.mono ?_
        rintro e w9 ⟨rfl, rfl⟩
        clear HC
        go_wp2_with fail
        refine (HA.out w8).mono ?_
        rintro e w9 ⟨rfl, hb9⟩
        have HU9 := Lib.hid (HU.out.up hb9)
        clear hb9 HU
        have H1 := usedUp HU9.out hsm
        have HC := Lib.hid H1
        clear H1 hsm
        have HX := Lib.hid hs3
        clear hs3
        generalize (swD o f).crash ks = X at HC HX HU9 hul
        have hx : (s.size : Int) ≤ (X.used : Int) := by have := HX.out; omega
        have hx2 : ((decide ((s.size : Int) ≤ (X.used : Int))) = true) := decide_eq_true hx
        by_cases hsf : s = f
        · subst hsf
          clear hs2
          go_wp2_with fail
          refine HC.out.mono ?_
          rintro e w10 ⟨rfl, hu10⟩
          go_wp2
          go_ret
          exact ⟨rfl, hu10.bel⟩
        · obtain rfl : s = o := hs2.resolve_right hsf
          clear hs2
          have hne : (s.toList == f.toList) = false := by
            rw [ba_toList, ba_toList]; simp only [beq_eq_false_iff_ne, ne_eq]; exact fun e => hsf (ba_eq.1 e)
          go_wp2_with fail
          refine HC.out.mono ?_
          rintro e w10 ⟨rfl, hu10⟩
          go_wp2
          go_ret
          exact ⟨rfl, hu10.bel⟩
      | true =>
        go_wp2_with fail
        refine HC.out.mono ?_
        rintro e w7 ⟨rfl, L7, hu7⟩
        clear HC HU
        have HU := Lib.hid hu7
        clear hu7
        have H1 := settleUp HU.out
        rw [sw_7] at H1
        have HC := Lib.hid H1
        clear H1
        go_wp2_with fail
        refine HC.out.mono ?_
        rintro e w7 ⟨rfl, L7, hu7⟩
        clear HC HU
        have HU := Lib.hid hu7
        clear hu7
        go_wp2_with fail
        refine (crashUp ks v HU.out (HV.out.below HU.out.bel) HK.out ⟨by show 2 ≤ _; decide, by show 0 ≤ _; decide⟩).mono ?_
        rintro e w8 ⟨rfl, L8, hu8⟩
        clear HU
        obtain ⟨hs1, hs3⟩ := sw_readS o f ks
        have hsm := small_crash (D := swS o f) ks (by show 1 + 0 ≤ _; decide)
        have hul := used_le hu8.at'.ok (Nat.le_trans hsm.1 (by decide))
        have HU := Lib.hid hu8
        clear hu8
        have H1 := readUp nA HU.out (by decide)
        rw [hs1] at H1
        have HC := Lib.hid H1
        clear H1 hs1
        go_wp2_with fail
        refine HC.out.mono ?_
        rintro e w9 ⟨rfl, rfl⟩
        clear HC
        go_wp2_with fail
        refine (HA.out w8).mono ?_
        rintro e w9 ⟨rfl, hb9⟩
        have HU9 := Lib.hid (HU.out.up hb9)
        clear hb9 HU
        have H1 := usedUp HU9.out hsm
        have HC := Lib.hid H1
        clear H1 hsm
        have HX := Lib.hid hs3
        clear hs3
        generalize (swS o f).crash ks = X at HC HX HU9 hul
        have hx : (f.size : Int) ≤ (X.used : Int) := by have := HX.out; omega
        have hx2 : ((decide ((f.size : Int) ≤ (X.used : Int))) = true) := decide_eq_true hx
        go_wp2_with fail
        refine HC.out.mono ?_
        rintro e w10 ⟨rfl, hu10⟩
        go_wp2
        go_ret
        exact ⟨rfl, hu10.bel⟩
end Go.Proofs.Ytjdkhainlcalbaa
