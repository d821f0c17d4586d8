/- IndexElder, of rows of heads that came in. -/
import Derived.Test.YtopmanmjggcfaaaAs
import Derived.Test.YtopmanmjggcfaaaJn
namespace Go.Proofs.Ytopmanmjggcfaaa
open Go.RowKit

theorem elder_card (l1 : List Hd) (v1 : Value) (l2 : List Hd) (v2 : Value) (w : World) (h1 : HdsIn w v1 l1) (h2 : HdsIn w v2 l2) :
    Calls Try.prog 3 #[v1, v2] w fun e w' => e = .returned (.bool true) ∧ Below w.heap.size w w' := by
  obtain ⟨A1, c1, rfl, r1, z1, k1⟩ := h1
  obtain ⟨A2, c2, rfl, r2, z2, k2⟩ := h2
  exact elder_all l1 l2 A1 A2 c1 c2 w r1 r2 z1 z2 k1 k2
end Go.Proofs.Ytopmanmjggcfaaa
