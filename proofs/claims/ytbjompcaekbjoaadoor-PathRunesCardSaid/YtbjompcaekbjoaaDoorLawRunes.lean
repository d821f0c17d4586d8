/- PathRunes, walked. -/
import Derived.Test.YtbjompcaekbjoaaDoorRr
namespace Go.Proofs.YtbjompcaekbjoaaDoor
open Go.RowKit

set_option maxRecDepth 100000 in
set_option maxHeartbeats 800000 in
theorem runes_all (a : ByteArray) (n : Int) (w : World) (he : Env w) (hn : -9223372036854775808 ≤ n ∧ n ≤ 9223372036854775807) : Calls Tryd.prog 7 #[.string a, .int .i64 n] w fun e w' => e = .returned (.bool true) ∧ Below w.heap.size w w' := by
  have HE := Lib.hid fun W (hb : Below w.heap.size w W) => he.below hb
  have ha := few400_size a
  have H1 := Lib.hid fun W => few11_any a W
  have H3 := Lib.hid (awake11_any w he)
  have H4 := Lib.hid fun W (h : Env W) => pfold_any (few400 a) W h (by omega)
  have H5 := Lib.hid fun W => reffold_any (few400 a) W (by omega)
  have H6 := Lib.hid fun W => pcount_any (few400 a) W (by omega)
  have H7 := Lib.hid fun W => refcount_any (few400 a) W (by omega)
  have H8 := Lib.hid fun W => pcut_any (few400 a) n W (by omega) hn
  have H9 := Lib.hid fun W => refcut_any (few400 a) n W (by omega) hn
  generalize few400 a = a' at *
  generalize foldR a' = q1 at *
  generalize cntR a' = q2 at *
  generalize cutR a' n = q3 at *
  clear he
  go_enter Tryd.func7, Tryd.ntmps7
  go_wp2_with fail
  refine (H1.out w).mono ?_
  rintro e w1 ⟨rfl, rfl⟩
  go_wp2_with fail
  refine H3.out.mono ?_
  rintro e w1 ⟨rfl, hb1⟩
  go_wp2_with fail
  refine (H4.out w1 (HE.out _ hb1)).mono ?_
  rintro e w2 ⟨rfl, hb2⟩
  have g2 := hb1.trans (hb2.mono hb1.size)
  go_wp2_with fail
  refine (H5.out w2).mono ?_
  rintro e w3 ⟨rfl, hb3⟩
  have g3 := g2.trans (hb3.mono g2.size)
  go_wp2_with fail
  refine (H6.out w3).mono ?_
  rintro e w4 ⟨rfl, hb4⟩
  have g4 := g3.trans (hb4.mono g3.size)
  go_wp2_with fail
  refine (H7.out w4).mono ?_
  rintro e w5 ⟨rfl, rfl⟩
  go_wp2_with fail
  refine (H8.out w4).mono ?_
  rintro e w5 ⟨rfl, hb5⟩
  have g5 := g4.trans (hb5.mono g4.size)
  go_wp2_with fail
  refine (H9.out w5).mono ?_
  rintro e w6 ⟨rfl, rfl⟩
  go_wp2
  go_ret
  exact ⟨by simp, g5⟩
end Go.Proofs.YtbjompcaekbjoaaDoor
