/- Regions that draw their order and hold calls that make memory: one walk serves every order. -/
import Derived.Test.YtaoejgnfoecpfaaDoorKit
namespace Go.Proofs.YtaoejgnfoecpfaaDoor
open Go.RowKit

/-- the class: worlds in which nothing of what there was has changed -/
theorem wp_region_below {P : Program} {id : Nat} {Q : Exit → Act → World → Prop} {a : Act} {w : World} {l : List Oper} (hm : P.follows .mixedOrders = true) (hB : Region.lexB .any l.toArray = true)
    (h : wpQuiet P l.toArray (fun W => Below w.heap.size w W) (fun a' => ∀ w', Below w.heap.size w w' → Q .normal a' w') l a) : (Code.region id l.toArray true).wp P Q a w :=
  wp_region_quiet (C := fun W => Below w.heap.size w W) hm hB (Below.refl _ w).drew (by simpa using h)
end Go.Proofs.YtaoejgnfoecpfaaDoor
