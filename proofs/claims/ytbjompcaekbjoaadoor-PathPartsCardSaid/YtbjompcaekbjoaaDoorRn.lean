/- The layer's head: few, awake. -/
import Derived.Test.YtbjompcaekbjoaaDoorRm
import Derived.Test.YtbjompcaekbjoaaDoorRi
import Derived.Test.YtbjompcaekbjoaaDoorRe
import Derived.Test.YtbjompcaekbjoaaDoorRg
namespace Go.Proofs.YtbjompcaekbjoaaDoor
open Go.RowKit

def few400 (s : ByteArray) : ByteArray := if 400 < s.size then s.extract 0 400 else s
theorem few400_size (s : ByteArray) : (few400 s).size ≤ 400 := by
  unfold few400
  split
  · rw [ByteArray.size_extract]; omega
  · omega
set_option maxRecDepth 100000 in
set_option maxHeartbeats 400000 in
theorem few11_any (s : ByteArray) (w : World) : Calls Tryd.prog 25 #[.string s] w fun e w' => e = .returned (.string (few400 s)) ∧ w = w' := by
  by_cases h : 400 < s.size
  · have HF := Lib.hid (show few400 s = s.extract 0 400 from if_pos h)
    have h1 : (400 : Int) < (s.size : Int) := by omega
    go_enter Tryd.func25, Tryd.ntmps25
    go_wp2
    go_ret
    exact ⟨ret_str HF.out.symm, rfl⟩
  · have HF := Lib.hid (show few400 s = s from if_neg h)
    have h1 : ¬ (400 : Int) < (s.size : Int) := by omega
    go_enter Tryd.func25, Tryd.ntmps25
    go_wp2
    go_ret
    exact ⟨ret_str HF.out.symm, rfl⟩
theorem aw1 : isPath ⟨#[97, 47, 98]⟩ = true := by decide +kernel
theorem aw2 : isPath ⟨#[97, 47, 46, 46]⟩ = false := by decide +kernel
theorem aw3 : cmpL (partsP ⟨#[97, 47, 98]⟩) (partsP ⟨#[97, 45, 98]⟩) = -1 := by decide +kernel
theorem aw4 : foldR ⟨#[195, 128, 206, 169]⟩ = ⟨#[195, 160, 207, 137]⟩ := by decide +kernel
theorem aw5 : (cntR ⟨#[255, 195]⟩ : Int) = 2 := by decide +kernel
set_option maxRecDepth 100000 in
set_option maxHeartbeats 800000 in
theorem awake11_any (w : World) (he : Env w) : Calls Tryd.prog 26 #[] w fun e w' => e = .returned (.bool true) ∧ Below w.heap.size w w' := by
  have HE := Lib.hid fun W (hb : Below w.heap.size w W) => he.below hb
  have H1 := Lib.hid (pis_any ⟨#[97, 47, 98]⟩ w he (by decide))
  rw [aw1] at H1
  have H2 := Lib.hid fun W (h : Env W) => pis_any ⟨#[97, 47, 46, 46]⟩ W h (by decide)
  rw [aw2] at H2
  have H3 := Lib.hid fun W (h : Env W) => pcompare_any ⟨#[97, 47, 98]⟩ ⟨#[97, 45, 98]⟩ W h (by decide) (by decide)
  rw [aw3] at H3
  have H4 := Lib.hid fun W (h : Env W) => pfold_any ⟨#[195, 128, 206, 169]⟩ W h (by decide)
  rw [aw4] at H4
  have H5 := Lib.hid fun W => pcount_any ⟨#[255, 195]⟩ W (by decide)
  rw [aw5] at H5
  clear he
  go_enter Tryd.func26, Tryd.ntmps26
  go_wp2_with fail
  refine H1.out.mono ?_
  rintro e w1 ⟨rfl, hb1⟩
  go_wp2_with fail
  refine (H2.out w1 (HE.out _ hb1)).mono ?_
  rintro e w2 ⟨rfl, hb2⟩
  have g2 := hb1.trans (hb2.mono hb1.size)
  go_wp2_with fail
  refine (H3.out w2 (HE.out _ g2)).mono ?_
  rintro e w3 ⟨rfl, hb3⟩
  have g3 := g2.trans (hb3.mono g2.size)
  go_wp2_with fail
  refine (H4.out w3 (HE.out _ g3)).mono ?_
  rintro e w4 ⟨rfl, hb4⟩
  have g4 := g3.trans (hb4.mono g3.size)
  go_wp2_with fail
  refine (H5.out w4).mono ?_
  rintro e w5 ⟨rfl, hb5⟩
  have g5 := g4.trans (hb5.mono g4.size)
  go_wp2
  go_ret
  exact ⟨rfl, g5⟩
end Go.Proofs.YtbjompcaekbjoaaDoor
