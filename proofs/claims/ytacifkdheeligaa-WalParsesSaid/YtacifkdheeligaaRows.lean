/-
  No cell of these rows narrows 'for every input' (looked for: loops, veiled, ifaces, maps, wideKeys, modest, calm, conditions, laid).
  DERIVED. THE GIVEN ROWS OF THIS SEAT. 4 by the template 'for every input the law returns true; each argument reads behind the call as it read before'; 0 by the template 'total and deterministic' (their statements: YtacifkdheeligaaTotals.lean).
  GIVEN WITH THE SEED: the statements are not yours to turn. If you find one false, say at which input.
  Laid BY PROGRAM, IN A SANDBOX (cutbox-rows.mjs): the forced cells as the released guide's own fill.sh prints them over the translation 30c9aff4b8f1ed3e… (all of the seat's roots in one cut). By AI agents, Wed Nov 11 2026. No macro, syntax, notation, axiom, sorry.
-/
import Derived.Test.YtacifkdheeligaaChecked
import GoSem.Claim
import GoSem.ClaimJoined
import GoSem.ClaimMapViews
import Derived.JoinedTies
import Derived.KernelRfl
namespace Go.Proofs.Ytacifkdheeligaa
/- THE CELL 'sum', in the pinned program and in every row, IS THE sha256 OF THE DUMP (.gsa) THAT YtacifkdheeligaaProg.lean LOADS. Nothing in Lean hashes anything: it is a label: what it is worth is what the hold of that sum in a sandbox is worth. -/
noncomputable def Try.pinned : Pinned := { name := "ytacifkdheeligaa", sum := "30c9aff4b8f1ed3ed9e8026f5d0cf971329745468f71cb477a96a9d3116f5a38", checked := Try.checked }
namespace Rows
def none {H : Type} : Left H := { results := [], args := [] }

/-- 'cellarerlaw15.WalParses': WHATEVER THE INPUT: true; the input reads as it did. -/
def walParsesSpec : ChangeSpec := { name := "walParses", fn := fun _ => fun
  | [d1, d2] => { results := [.lit (.bool true)], args := [d1, d2] }
  | _ => none }
def walParsesRow : OpenClaim := { program := "ytacifkdheeligaa", sum := "30c9aff4b8f1ed3ed9e8026f5d0cf971329745468f71cb477a96a9d3116f5a38", func := "cellarer/cellarerlaw15.WalParses", spec := "walParses", inPlace := ["maps.clone"], apart := false }
def WalParsesSaid : Prop := walParsesRow.holds Try.pinned (OpenSpec.ofChange walParsesSpec)

/-- ITS FALSE NEIGHBOUR: 'it returns false'. Refute it at one input. -/
def walParsesWrong : ChangeSpec := { name := "walParses", fn := fun _ => fun
  | [d1, d2] => { results := [.lit (.bool false)], args := [d1, d2] }
  | _ => none }
def WalParsesWrongFalsely : Prop := walParsesRow.holds Try.pinned (OpenSpec.ofChange walParsesWrong)

/-- 'cellarerlaw15.WalFull': WHATEVER THE INPUT: true; the input reads as it did. -/
def walFullSpec : ChangeSpec := { name := "walFull", fn := fun _ => fun
  | [d1, d2, d3] => { results := [.lit (.bool true)], args := [d1, d2, d3] }
  | _ => none }
def walFullRow : OpenClaim := { program := "ytacifkdheeligaa", sum := "30c9aff4b8f1ed3ed9e8026f5d0cf971329745468f71cb477a96a9d3116f5a38", func := "cellarer/cellarerlaw15.WalFull", spec := "walFull", inPlace := ["maps.clone"], apart := false }
def WalFullSaid : Prop := walFullRow.holds Try.pinned (OpenSpec.ofChange walFullSpec)

/-- ITS FALSE NEIGHBOUR: 'it returns false'. Refute it at one input. -/
def walFullWrong : ChangeSpec := { name := "walFull", fn := fun _ => fun
  | [d1, d2, d3] => { results := [.lit (.bool false)], args := [d1, d2, d3] }
  | _ => none }
def WalFullWrongFalsely : Prop := walFullRow.holds Try.pinned (OpenSpec.ofChange walFullWrong)

/-- 'cellarerlaw17.IndexElder': WHATEVER THE INPUT: true; the input reads as it did. -/
def indexElderSpec : ChangeSpec := { name := "indexElder", fn := fun _ => fun
  | [d1, d2] => { results := [.lit (.bool true)], args := [d1, d2] }
  | _ => none }
def indexElderRow : OpenClaim := { program := "ytacifkdheeligaa", sum := "30c9aff4b8f1ed3ed9e8026f5d0cf971329745468f71cb477a96a9d3116f5a38", func := "cellarer/cellarerlaw17.IndexElder", spec := "indexElder", unfollowed := true, recurses := true, apart := false }
def IndexElderSaid : Prop := indexElderRow.holds Try.pinned (OpenSpec.ofChange indexElderSpec)

/-- ITS FALSE NEIGHBOUR: 'it returns false'. Refute it at one input. -/
def indexElderWrong : ChangeSpec := { name := "indexElder", fn := fun _ => fun
  | [d1, d2] => { results := [.lit (.bool false)], args := [d1, d2] }
  | _ => none }
def IndexElderWrongFalsely : Prop := indexElderRow.holds Try.pinned (OpenSpec.ofChange indexElderWrong)

/-- 'cellarerlaw17.IndexAdds': WHATEVER THE INPUT: true; the input reads as it did. -/
def indexAddsSpec : ChangeSpec := { name := "indexAdds", fn := fun _ => fun
  | [d1, d2] => { results := [.lit (.bool true)], args := [d1, d2] }
  | _ => none }
def indexAddsRow : OpenClaim := { program := "ytacifkdheeligaa", sum := "30c9aff4b8f1ed3ed9e8026f5d0cf971329745468f71cb477a96a9d3116f5a38", func := "cellarer/cellarerlaw17.IndexAdds", spec := "indexAdds", unfollowed := true, recurses := true, apart := false }
def IndexAddsSaid : Prop := indexAddsRow.holds Try.pinned (OpenSpec.ofChange indexAddsSpec)

/-- ITS FALSE NEIGHBOUR: 'it returns false'. Refute it at one input. -/
def indexAddsWrong : ChangeSpec := { name := "indexAdds", fn := fun _ => fun
  | [d1, d2] => { results := [.lit (.bool false)], args := [d1, d2] }
  | _ => none }
def IndexAddsWrongFalsely : Prop := indexAddsRow.holds Try.pinned (OpenSpec.ofChange indexAddsWrong)

/- THE SECOND FORM. 'bulk': how many values and letters a reading holds, each counted each time it is reached (what is shared counts as often as it is met; a slice's spare places count too). A statement '..UptoSaid' is the law's where the arguments, and the package variables that the reading takes, are together of bulk at most 1048576: NARROWER than '..Said'. Prove '..Said' where nothing that the law and all that it calls make is longer than what came in: it says more and counts as full. Else prove '..UptoSaid'. A law counts once. -/
mutual
def uptoBulk {H : Type} : DataW H → Nat
  | .lit (.string bytes) => bytes.length + 1
  | .lit _ => 1
  | .nil => 1
  | .ptr d => uptoBulk d + 1
  | .slice elems spare => uptoBulkAll elems + uptoBulkAll spare + 1
  | .agg parts => uptoBulkAll parts + 1
  | .iface _ d => uptoBulk d + 1
  | .map entries => uptoBulkEntries entries + 1
  | .held _ => 1
def uptoBulkAll {H : Type} : List (DataW H) → Nat
  | [] => 0
  | d :: r => uptoBulk d + uptoBulkAll r
def uptoBulkEntries {H : Type} : List (Lit × DataW H) → Nat
  | [] => 0
  | x :: r => uptoBulkEntry x + uptoBulkEntries r
def uptoBulkEntry {H : Type} : Lit × DataW H → Nat
  | (.string bytes, d) => bytes.length + uptoBulk d + 1
  | (_, d) => uptoBulk d + 1
 end
def uptoSmall : (H : Type) → List (DataW H) → Bool := fun _ ds => decide (uptoBulkAll ds ≤ 1048576)
def OpenSpec.upto (s : _root_.Go.ChangeSpec) : _root_.Go.OpenSpec := { _root_.Go.OpenSpec.ofChange s with cond := some uptoSmall }

/-- 'cellarerlaw15.WalParses', WHERE WHAT IT READS IS OF BULK AT MOST 1048576: true; the input reads as it did. -/
def walParsesUptoRow : OpenClaim := { program := "ytacifkdheeligaa", sum := "30c9aff4b8f1ed3ed9e8026f5d0cf971329745468f71cb477a96a9d3116f5a38", func := "cellarer/cellarerlaw15.WalParses", spec := "walParses", inPlace := ["maps.clone"], apart := false, narrowed := true }
def WalParsesUptoSaid : Prop := walParsesUptoRow.holds Try.pinned (OpenSpec.upto walParsesSpec)

/-- 'cellarerlaw15.WalFull', WHERE WHAT IT READS IS OF BULK AT MOST 1048576: true; the input reads as it did. -/
def walFullUptoRow : OpenClaim := { program := "ytacifkdheeligaa", sum := "30c9aff4b8f1ed3ed9e8026f5d0cf971329745468f71cb477a96a9d3116f5a38", func := "cellarer/cellarerlaw15.WalFull", spec := "walFull", inPlace := ["maps.clone"], apart := false, narrowed := true }
def WalFullUptoSaid : Prop := walFullUptoRow.holds Try.pinned (OpenSpec.upto walFullSpec)

/-- 'cellarerlaw17.IndexElder', WHERE WHAT IT READS IS OF BULK AT MOST 1048576: true; the input reads as it did. -/
def indexElderUptoRow : OpenClaim := { program := "ytacifkdheeligaa", sum := "30c9aff4b8f1ed3ed9e8026f5d0cf971329745468f71cb477a96a9d3116f5a38", func := "cellarer/cellarerlaw17.IndexElder", spec := "indexElder", unfollowed := true, recurses := true, apart := false, narrowed := true }
def IndexElderUptoSaid : Prop := indexElderUptoRow.holds Try.pinned (OpenSpec.upto indexElderSpec)

/-- 'cellarerlaw17.IndexAdds', WHERE WHAT IT READS IS OF BULK AT MOST 1048576: true; the input reads as it did. -/
def indexAddsUptoRow : OpenClaim := { program := "ytacifkdheeligaa", sum := "30c9aff4b8f1ed3ed9e8026f5d0cf971329745468f71cb477a96a9d3116f5a38", func := "cellarer/cellarerlaw17.IndexAdds", spec := "indexAdds", unfollowed := true, recurses := true, apart := false, narrowed := true }
def IndexAddsUptoSaid : Prop := indexAddsUptoRow.holds Try.pinned (OpenSpec.upto indexAddsSpec)

end Rows
end Go.Proofs.Ytacifkdheeligaa
