/-
  No cell of these rows narrows 'for every input' (looked for: loops, veiled, ifaces, maps, wideKeys, modest, calm, conditions, laid).
  DERIVED. THE GIVEN ROWS OF THIS SEAT. 4 by the template 'for every input the law returns true; each argument reads behind the call as it read before'; 0 by the template 'total and deterministic' (their statements: YtopmanmjggcfaaaTotals.lean).
  GIVEN WITH THE SEED: the statements are not yours to turn. If you find one false, say at which input.
  Laid BY PROGRAM, IN A SANDBOX (cutbox-rows.mjs): the forced cells as the released guide's own fill.sh prints them over the translation 112e1cb92f20e232… (all of the seat's roots in one cut). By AI agents, Wed Nov 11 2026. No macro, syntax, notation, axiom, sorry.
-/
import Derived.Test.YtopmanmjggcfaaaChecked
import GoSem.Claim
import GoSem.ClaimJoined
import GoSem.ClaimMapViews
import Derived.JoinedTies
import Derived.KernelRfl
namespace Go.Proofs.Ytopmanmjggcfaaa
/- THE CELL 'sum', in the pinned program and in every row, IS THE sha256 OF THE DUMP (.gsa) THAT YtopmanmjggcfaaaProg.lean LOADS. Nothing in Lean hashes anything: it is a label: what it is worth is what the hold of that sum in a sandbox is worth. -/
noncomputable def Try.pinned : Pinned := { name := "ytopmanmjggcfaaa", sum := "112e1cb92f20e232f49d148759405fe2210ffd29c4a4efdf95f0ec1bec9e562a", checked := Try.checked }
namespace Rows
def none {H : Type} : Left H := { results := [], args := [] }

/-- 'cellarerlaw17.IndexElder': WHATEVER THE INPUT: true; the input reads as it did. -/
def indexElderSpec : ChangeSpec := { name := "indexElder", fn := fun _ => fun
  | [d1, d2] => { results := [.lit (.bool true)], args := [d1, d2] }
  | _ => none }
def indexElderRow : OpenClaim := { program := "ytopmanmjggcfaaa", sum := "112e1cb92f20e232f49d148759405fe2210ffd29c4a4efdf95f0ec1bec9e562a", func := "cellarer/cellarerlaw17.IndexElder", spec := "indexElder", unfollowed := true, recurses := true, apart := false }
def IndexElderSaid : Prop := indexElderRow.holds Try.pinned (OpenSpec.ofChange indexElderSpec)

/-- ITS FALSE NEIGHBOUR: 'it returns false'. Refute it at one input. -/
def indexElderWrong : ChangeSpec := { name := "indexElder", fn := fun _ => fun
  | [d1, d2] => { results := [.lit (.bool false)], args := [d1, d2] }
  | _ => none }
def IndexElderWrongFalsely : Prop := indexElderRow.holds Try.pinned (OpenSpec.ofChange indexElderWrong)

/-- 'cellarerlaw17.IndexAdds': WHATEVER THE INPUT: true; the input reads as it did. -/
def indexAddsSpec : ChangeSpec := { name := "indexAdds", fn := fun _ => fun
  | [d1, d2] => { results := [.lit (.bool true)], args := [d1, d2] }
  | _ => none }
def indexAddsRow : OpenClaim := { program := "ytopmanmjggcfaaa", sum := "112e1cb92f20e232f49d148759405fe2210ffd29c4a4efdf95f0ec1bec9e562a", func := "cellarer/cellarerlaw17.IndexAdds", spec := "indexAdds", unfollowed := true, recurses := true, apart := false }
def IndexAddsSaid : Prop := indexAddsRow.holds Try.pinned (OpenSpec.ofChange indexAddsSpec)

/-- ITS FALSE NEIGHBOUR: 'it returns false'. Refute it at one input. -/
def indexAddsWrong : ChangeSpec := { name := "indexAdds", fn := fun _ => fun
  | [d1, d2] => { results := [.lit (.bool false)], args := [d1, d2] }
  | _ => none }
def IndexAddsWrongFalsely : Prop := indexAddsRow.holds Try.pinned (OpenSpec.ofChange indexAddsWrong)

/-- 'cellarerlaw17.IndexReads': WHATEVER THE INPUT: true; the input reads as it did. -/
def indexReadsSpec : ChangeSpec := { name := "indexReads", fn := fun _ => fun
  | [d] => { results := [.lit (.bool true)], args := [d] }
  | _ => none }
def indexReadsRow : OpenClaim := { program := "ytopmanmjggcfaaa", sum := "112e1cb92f20e232f49d148759405fe2210ffd29c4a4efdf95f0ec1bec9e562a", func := "cellarer/cellarerlaw17.IndexReads", spec := "indexReads", unfollowed := true, recurses := true, apart := false }
def IndexReadsSaid : Prop := indexReadsRow.holds Try.pinned (OpenSpec.ofChange indexReadsSpec)

/-- ITS FALSE NEIGHBOUR: 'it returns false'. Refute it at one input. -/
def indexReadsWrong : ChangeSpec := { name := "indexReads", fn := fun _ => fun
  | [d] => { results := [.lit (.bool false)], args := [d] }
  | _ => none }
def IndexReadsWrongFalsely : Prop := indexReadsRow.holds Try.pinned (OpenSpec.ofChange indexReadsWrong)

/-- 'cellarerlaw17.IndexBack': WHATEVER THE INPUT: true; the input reads as it did. -/
def indexBackSpec : ChangeSpec := { name := "indexBack", fn := fun _ => fun
  | [d1, d2] => { results := [.lit (.bool true)], args := [d1, d2] }
  | _ => none }
def indexBackRow : OpenClaim := { program := "ytopmanmjggcfaaa", sum := "112e1cb92f20e232f49d148759405fe2210ffd29c4a4efdf95f0ec1bec9e562a", func := "cellarer/cellarerlaw17.IndexBack", spec := "indexBack", unfollowed := true, recurses := true, apart := false }
def IndexBackSaid : Prop := indexBackRow.holds Try.pinned (OpenSpec.ofChange indexBackSpec)

/-- ITS FALSE NEIGHBOUR: 'it returns false'. Refute it at one input. -/
def indexBackWrong : ChangeSpec := { name := "indexBack", fn := fun _ => fun
  | [d1, d2] => { results := [.lit (.bool false)], args := [d1, d2] }
  | _ => none }
def IndexBackWrongFalsely : Prop := indexBackRow.holds Try.pinned (OpenSpec.ofChange indexBackWrong)

/- THE SECOND FORM. 'bulk': how many values and letters a reading holds, each counted each time it is reached (what is shared counts as often as it is met; a slice's spare places count too). A statement '..UptoSaid' is the law's where the arguments, and the package variables that the reading takes, are together of bulk at most 1048576: NARROWER than '..Said'. Prove '..Said' where nothing that the law and all that it calls make is longer than what came in: it says more and counts as full. Else prove '..UptoSaid'. A law counts once. -/
mutual
def uptoBulk {H : Type} : DataW H → Nat
  | .lit (.string bytes) => bytes.length + 1
  | .lit _ => 1
  | .nil => 1
  | .ptr d => uptoBulk d + 1
  | .slice elems spare => uptoBulkAll elems + uptoBulkAll spare + 1
  | .agg parts => uptoBulkAll parts + 1
  | .iface _ d => uptoBulk d + 1
  | .map entries => uptoBulkEntries entries + 1
  | .held _ => 1
def uptoBulkAll {H : Type} : List (DataW H) → Nat
  | [] => 0
  | d :: r => uptoBulk d + uptoBulkAll r
def uptoBulkEntries {H : Type} : List (Lit × DataW H) → Nat
  | [] => 0
  | x :: r => uptoBulkEntry x + uptoBulkEntries r
def uptoBulkEntry {H : Type} : Lit × DataW H → Nat
  | (.string bytes, d) => bytes.length + uptoBulk d + 1
  | (_, d) => uptoBulk d + 1
 end
def uptoSmall : (H : Type) → List (DataW H) → Bool := fun _ ds => decide (uptoBulkAll ds ≤ 1048576)
def OpenSpec.upto (s : _root_.Go.ChangeSpec) : _root_.Go.OpenSpec := { _root_.Go.OpenSpec.ofChange s with cond := some uptoSmall }

/-- 'cellarerlaw17.IndexElder', WHERE WHAT IT READS IS OF BULK AT MOST 1048576: true; the input reads as it did. -/
def indexElderUptoRow : OpenClaim := { program := "ytopmanmjggcfaaa", sum := "112e1cb92f20e232f49d148759405fe2210ffd29c4a4efdf95f0ec1bec9e562a", func := "cellarer/cellarerlaw17.IndexElder", spec := "indexElder", unfollowed := true, recurses := true, apart := false, narrowed := true }
def IndexElderUptoSaid : Prop := indexElderUptoRow.holds Try.pinned (OpenSpec.upto indexElderSpec)

/-- 'cellarerlaw17.IndexAdds', WHERE WHAT IT READS IS OF BULK AT MOST 1048576: true; the input reads as it did. -/
def indexAddsUptoRow : OpenClaim := { program := "ytopmanmjggcfaaa", sum := "112e1cb92f20e232f49d148759405fe2210ffd29c4a4efdf95f0ec1bec9e562a", func := "cellarer/cellarerlaw17.IndexAdds", spec := "indexAdds", unfollowed := true, recurses := true, apart := false, narrowed := true }
def IndexAddsUptoSaid : Prop := indexAddsUptoRow.holds Try.pinned (OpenSpec.upto indexAddsSpec)

/-- 'cellarerlaw17.IndexReads', WHERE WHAT IT READS IS OF BULK AT MOST 1048576: true; the input reads as it did. -/
def indexReadsUptoRow : OpenClaim := { program := "ytopmanmjggcfaaa", sum := "112e1cb92f20e232f49d148759405fe2210ffd29c4a4efdf95f0ec1bec9e562a", func := "cellarer/cellarerlaw17.IndexReads", spec := "indexReads", unfollowed := true, recurses := true, apart := false, narrowed := true }
def IndexReadsUptoSaid : Prop := indexReadsUptoRow.holds Try.pinned (OpenSpec.upto indexReadsSpec)

/-- 'cellarerlaw17.IndexBack', WHERE WHAT IT READS IS OF BULK AT MOST 1048576: true; the input reads as it did. -/
def indexBackUptoRow : OpenClaim := { program := "ytopmanmjggcfaaa", sum := "112e1cb92f20e232f49d148759405fe2210ffd29c4a4efdf95f0ec1bec9e562a", func := "cellarer/cellarerlaw17.IndexBack", spec := "indexBack", unfollowed := true, recurses := true, apart := false, narrowed := true }
def IndexBackUptoSaid : Prop := indexBackUptoRow.holds Try.pinned (OpenSpec.upto indexBackSpec)

end Rows
end Go.Proofs.Ytopmanmjggcfaaa
