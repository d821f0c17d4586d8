/- PathFolds, walked. -/
import Derived.Test.YtbjompcaekbjoaaDoorRv
namespace Go.Proofs.YtbjompcaekbjoaaDoor
open Go.RowKit

theorem same_str (a : ByteArray) : (a.toList != a.toList) = false := by simp

set_option maxRecDepth 100000 in
set_option maxHeartbeats 1600000 in
theorem folds_all (a : ByteArray) (n : Int) (w : World) (he : Env w) (hn : -9223372036854775808 ≤ n ∧ n ≤ 9223372036854775807) : Calls Tryd.prog 8 #[.string a, .int .i64 n] w fun e w' => e = .returned (.bool true) ∧ Below w.heap.size w w' := by
  have HE := Lib.hid fun W (hb : Below w.heap.size w W) => he.below hb
  have ha := few400_size a
  have H1 := Lib.hid fun W => few11_any a W
  have H3 := Lib.hid fun W (h : Env W) => awake11_any W h
  generalize few400 a = a' at *
  have hfz := foldR_size a'
  have hcz : (cutR a' n).size ≤ 400 := by unfold cutR; rw [ByteArray.size_extract]; omega
  have H4 := Lib.hid fun W (h : Env W) => pfold_any a' W h (by omega)
  have H5 := Lib.hid fun W (h : Env W) => pfold_any (foldR a') W h (by omega)
  rw [fold_twice] at H5
  have H6 := Lib.hid fun W => pcount_any (foldR a') W (by omega)
  rw [fold_count] at H6
  have H7 := Lib.hid fun W => pcount_any a' W (by omega)
  have H8 := Lib.hid fun W => pcut_any a' n W (by omega) hn
  have H9 := Lib.hid fun W (h : Env W) => pfold_any (cutR a' n) W h (by omega)
  rw [fold_cut] at H9
  have H10 := Lib.hid fun W => pcut_any (foldR a') n W (by omega) hn
  have H11 := Lib.hid fun W => pcount_any (cutR a' n) W (by omega)
  have hk : (((cntR (cutR a' n) : Nat) : Int) == max 0 (min n ((cntR a' : Nat) : Int))) = true := by rw [count_cut]; simp
  have H12 := Lib.hid fun W (h : Env W) => pname_any a' W h (by omega)
  have H13 := Lib.hid fun W (h : Env W) => pname_any (foldR a') W h (by omega)
  rw [fold_name] at H13
  have hnm : nameOk a' = true → (foldR a').size ≤ 60 := fun h => by
    unfold nameOk at h
    simp only [Bool.and_eq_true, decide_eq_true_eq] at h
    omega
  generalize foldR a' = f at *
  generalize cutR f n = q at *
  generalize cutR a' n = c at *
  generalize cntR a' = k1 at *
  generalize cntR c = k2 at *
  clear he hfz hcz
  go_enter Tryd.func8, Tryd.ntmps8
  go_wp2_with fail
  refine (H1.out w).mono ?_
  rintro e w1 ⟨rfl, rfl⟩
  go_wp2_with fail
  refine (H4.out w (HE.out _ (Below.refl _ _))).mono ?_
  rintro e w1 ⟨rfl, g1⟩
  go_wp2_with fail
  refine (H5.out w1 (HE.out _ g1)).mono ?_
  rintro e w2 ⟨rfl, hb2⟩
  have g2 := g1.trans (hb2.mono g1.size)
  go_wp2_with fail
  refine (H6.out w2).mono ?_
  rintro e w3 ⟨rfl, hb3⟩
  have g3 := g2.trans (hb3.mono g2.size)
  go_wp2_with fail
  refine (H7.out w3).mono ?_
  rintro e w4 ⟨rfl, hb4⟩
  have g4 := g3.trans (hb4.mono g3.size)
  go_wp2_with fail
  refine (H8.out w4).mono ?_
  rintro e w5 ⟨rfl, hb5⟩
  have g5 := g4.trans (hb5.mono g4.size)
  go_wp2_with fail
  refine (H9.out w5 (HE.out _ g5)).mono ?_
  rintro e w6 ⟨rfl, hb6⟩
  have g6 := g5.trans (hb6.mono g5.size)
  go_wp2_with fail
  refine (H10.out w6).mono ?_
  rintro e w7 ⟨rfl, hb7⟩
  have g7 := g6.trans (hb7.mono g6.size)
  go_wp2_with fail
  refine (H8.out w7).mono ?_
  rintro e w8 ⟨rfl, hb8⟩
  have g8 := g7.trans (hb8.mono g7.size)
  go_wp2_with fail
  refine (H11.out w8).mono ?_
  rintro e w9 ⟨rfl, hb9⟩
  have g9 := g8.trans (hb9.mono g8.size)
  go_wp2_with fail
  refine (H3.out w9 (HE.out _ g9)).mono ?_
  rintro e w10 ⟨rfl, hb10⟩
  have g10 := g9.trans (hb10.mono g9.size)
  clear hb2 hb3 hb4 hb5 hb6 hb7 hb8 hb9 hb10 g1 g2 g3 g4 g5 g6 g7 g8 g9
  go_wp2_with fail
  refine (H7.out w10).mono ?_
  rintro e w11 ⟨rfl, hb11⟩
  have g11 := g10.trans (hb11.mono g10.size)
  go_wp2_with fail
  refine (H12.out w11 (HE.out _ g11)).mono ?_
  rintro e w12 ⟨rfl, hb12⟩
  have g12 := g11.trans (hb12.mono g11.size)
  have HE12 := Lib.hid (HE.out _ g12)
  have HG12 := Lib.hid g12
  clear hb11 hb12 g10 g11 g12
  cases hq : nameOk a' with
  | true =>
    have hz := hnm hq
    have hz2 : ¬ (60 : Int) < (f.size : Int) := by omega
    have HQ := Lib.hid hq
    clear hnm hq
    go_wp2_with fail
    refine (H13.out w12 HE12.out).mono ?_
    rw [HQ.out]
    rintro e w13 ⟨rfl, hb13⟩
    have HG13 := Lib.hid (HG12.out.trans (hb13.mono HG12.out.size))
    clear hb13
    go_wp2
    go_ret
    exact ⟨rfl, HG13.out⟩
  | false =>
    clear hnm hq
    go_wp2
    go_ret
    exact ⟨rfl, HG12.out⟩
end Go.Proofs.YtbjompcaekbjoaaDoor
