/- PathNames, walked. -/
import Derived.Test.YtbjompcaekbjoaaDoorRs
namespace Go.Proofs.YtbjompcaekbjoaaDoor
open Go.RowKit

set_option maxRecDepth 100000 in
set_option maxHeartbeats 800000 in
theorem names_all (a : ByteArray) (w : World) (he : Env w) : Calls Tryd.prog 9 #[.string a] w fun e w' => e = .returned (.bool true) ∧ Below w.heap.size w w' := by
  have HE := Lib.hid fun W (hb : Below w.heap.size w W) => he.below hb
  have ha := few400_size a
  have H1 := Lib.hid fun W => few11_any a W
  have H3 := Lib.hid (awake11_any w he)
  have H4 := Lib.hid fun W (h : Env W) => pname_any (few400 a) W h (by omega)
  have H5 := Lib.hid fun W => refname_any (few400 a) W (by omega)
  have H6 := Lib.hid fun W (h : Env W) => pis_any (few400 a) W h (by omega)
  have H7 := Lib.hid fun W => refis_any (few400 a) W (by omega)
  have H8 := Lib.hid fun W => pparent_any (few400 a) W (by omega)
  have H9 := Lib.hid fun W => refparent_any (few400 a) W (by omega)
  have H10 := Lib.hid fun W => pbase_any (few400 a) W (by omega)
  have H11 := Lib.hid fun W => refbase_any (few400 a) W (by omega)
  generalize few400 a = a' at *
  generalize nameOk a' = q1 at *
  generalize isPath a' = q2 at *
  generalize parentP a' = q3 at *
  generalize baseP a' = q4 at *
  clear he
  go_enter Tryd.func9, Tryd.ntmps9
  go_wp2_with fail
  refine (H1.out w).mono ?_
  rintro e w1 ⟨rfl, rfl⟩
  go_wp2_with fail
  refine H3.out.mono ?_
  rintro e w1 ⟨rfl, hb1⟩
  go_wp2_with fail
  refine (H4.out w1 (HE.out _ hb1)).mono ?_
  rintro e w2 ⟨rfl, hb2⟩
  have g2 := hb1.trans (hb2.mono hb1.size)
  go_wp2_with fail
  refine (H5.out w2).mono ?_
  rintro e w3 ⟨rfl, rfl⟩
  go_wp2_with fail
  refine (H6.out w2 (HE.out _ g2)).mono ?_
  rintro e w3 ⟨rfl, hb3⟩
  have g3 := g2.trans (hb3.mono g2.size)
  go_wp2_with fail
  refine (H7.out w3).mono ?_
  rintro e w4 ⟨rfl, hb4⟩
  have g4 := g3.trans (hb4.mono g3.size)
  go_wp2_with fail
  refine (H8.out w4).mono ?_
  rintro e w5 ⟨rfl, rfl⟩
  go_wp2_with fail
  refine (H9.out w4).mono ?_
  rintro e w5 ⟨rfl, rfl⟩
  go_wp2_with fail
  refine (H10.out w4).mono ?_
  rintro e w5 ⟨rfl, rfl⟩
  go_wp2_with fail
  refine (H11.out w4).mono ?_
  rintro e w5 ⟨rfl, hb5⟩
  have g5 := g4.trans (hb5.mono g4.size)
  go_wp2
  go_ret
  exact ⟨by simp, g5⟩
end Go.Proofs.YtbjompcaekbjoaaDoor
