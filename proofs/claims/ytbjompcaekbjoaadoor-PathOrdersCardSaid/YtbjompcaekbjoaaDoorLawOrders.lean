/- PathOrders, walked. -/
import Derived.Test.YtbjompcaekbjoaaDoorRn
namespace Go.Proofs.YtbjompcaekbjoaaDoor
open Go.RowKit

set_option maxRecDepth 100000 in
set_option maxHeartbeats 800000 in
theorem orders_all (a b : ByteArray) (w : World) (he : Env w) : Calls Tryd.prog 5 #[.string a, .string b] w fun e w' => e = .returned (.bool true) ∧ Below w.heap.size w w' := by
  have HE := Lib.hid fun W (hb : Below w.heap.size w W) => he.below hb
  have ha := few400_size a
  have hb := few400_size b
  have H1 := Lib.hid fun W => few11_any a W
  have H2 := Lib.hid fun W => few11_any b W
  have H3 := Lib.hid (awake11_any w he)
  have H4 := Lib.hid fun W (h : Env W) => pcompare_any (few400 a) (few400 b) W h (by omega) (by omega)
  have H5 := Lib.hid fun W => refcompare_any (few400 a) (few400 b) W (by omega) (by omega)
  generalize few400 a = a' at *
  generalize few400 b = b' at *
  generalize cmpL (partsP a') (partsP b') = q at *
  clear he
  go_enter Tryd.func5, Tryd.ntmps5
  go_wp2_with fail
  refine (H1.out w).mono ?_
  rintro e w1 ⟨rfl, rfl⟩
  go_wp2_with fail
  refine (H2.out _).mono ?_
  rintro e w1 ⟨rfl, rfl⟩
  go_wp2_with fail
  refine H3.out.mono ?_
  rintro e w1 ⟨rfl, hb1⟩
  go_wp2_with fail
  refine (H4.out w1 (HE.out _ hb1)).mono ?_
  rintro e w2 ⟨rfl, hb2⟩
  have g2 := hb1.trans (hb2.mono hb1.size)
  go_wp2_with fail
  refine (H5.out w2).mono ?_
  rintro e w3 ⟨rfl, hb3⟩
  have g3 := g2.trans (hb3.mono g2.size)
  go_wp2
  go_ret
  exact ⟨by simp, g3⟩
end Go.Proofs.YtbjompcaekbjoaaDoor
