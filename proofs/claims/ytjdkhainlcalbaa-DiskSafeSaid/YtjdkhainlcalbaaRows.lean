/-
  No cell of these rows narrows 'for every input' (looked for: loops, veiled, ifaces, maps, wideKeys, modest, calm, conditions, laid).
  DERIVED. THE GIVEN ROWS OF THIS SEAT. 12 by the template 'for every input the law returns true; each argument reads behind the call as it read before'; 0 by the template 'total and deterministic' (their statements: YtjdkhainlcalbaaTotals.lean).
  GIVEN WITH THE SEED: the statements are not yours to turn. If you find one false, say at which input.
  Laid BY PROGRAM, IN A SANDBOX (cutbox-rows.mjs): the forced cells as the released guide's own fill.sh prints them over the translation 7ba1d0fd96b8bc45… (all of the seat's roots in one cut). By AI agents, Wed Nov 11 2026. No macro, syntax, notation, axiom, sorry.
-/
import Derived.Test.YtjdkhainlcalbaaChecked
import GoSem.Claim
import GoSem.ClaimJoined
import GoSem.ClaimMapViews
import Derived.JoinedTies
import Derived.KernelRfl
namespace Go.Proofs.Ytjdkhainlcalbaa
/- THE CELL 'sum', in the pinned program and in every row, IS THE sha256 OF THE DUMP (.gsa) THAT YtjdkhainlcalbaaProg.lean LOADS. Nothing in Lean hashes anything: it is a label: what it is worth is what the hold of that sum in a sandbox is worth. -/
noncomputable def Try.pinned : Pinned := { name := "ytjdkhainlcalbaa", sum := "7ba1d0fd96b8bc45f23d32719dde51df2cd334db8b173d93a07b423ec3a001ad", checked := Try.checked }
namespace Rows
def none {H : Type} : Left H := { results := [], args := [] }

/-- 'cellarerlaw17.IndexElder': WHATEVER THE INPUT: true; the input reads as it did. -/
def indexElderSpec : ChangeSpec := { name := "indexElder", fn := fun _ => fun
  | [d1, d2] => { results := [.lit (.bool true)], args := [d1, d2] }
  | _ => none }
def indexElderRow : OpenClaim := { program := "ytjdkhainlcalbaa", sum := "7ba1d0fd96b8bc45f23d32719dde51df2cd334db8b173d93a07b423ec3a001ad", func := "cellarer/cellarerlaw17.IndexElder", spec := "indexElder", unfollowed := true, recurses := true, apart := false }
def IndexElderSaid : Prop := indexElderRow.holds Try.pinned (OpenSpec.ofChange indexElderSpec)

/-- ITS FALSE NEIGHBOUR: 'it returns false'. Refute it at one input. -/
def indexElderWrong : ChangeSpec := { name := "indexElder", fn := fun _ => fun
  | [d1, d2] => { results := [.lit (.bool false)], args := [d1, d2] }
  | _ => none }
def IndexElderWrongFalsely : Prop := indexElderRow.holds Try.pinned (OpenSpec.ofChange indexElderWrong)

/-- 'cellarerlaw17.IndexAdds': WHATEVER THE INPUT: true; the input reads as it did. -/
def indexAddsSpec : ChangeSpec := { name := "indexAdds", fn := fun _ => fun
  | [d1, d2] => { results := [.lit (.bool true)], args := [d1, d2] }
  | _ => none }
def indexAddsRow : OpenClaim := { program := "ytjdkhainlcalbaa", sum := "7ba1d0fd96b8bc45f23d32719dde51df2cd334db8b173d93a07b423ec3a001ad", func := "cellarer/cellarerlaw17.IndexAdds", spec := "indexAdds", unfollowed := true, recurses := true, apart := false }
def IndexAddsSaid : Prop := indexAddsRow.holds Try.pinned (OpenSpec.ofChange indexAddsSpec)

/-- ITS FALSE NEIGHBOUR: 'it returns false'. Refute it at one input. -/
def indexAddsWrong : ChangeSpec := { name := "indexAdds", fn := fun _ => fun
  | [d1, d2] => { results := [.lit (.bool false)], args := [d1, d2] }
  | _ => none }
def IndexAddsWrongFalsely : Prop := indexAddsRow.holds Try.pinned (OpenSpec.ofChange indexAddsWrong)

/-- 'cellarerlaw14.DiskRoom': WHATEVER THE INPUT: true; the input reads as it did. -/
def diskRoomSpec : ChangeSpec := { name := "diskRoom", fn := fun _ => fun
  | [d1, d2] => { results := [.lit (.bool true)], args := [d1, d2] }
  | _ => none }
def diskRoomRow : OpenClaim := { program := "ytjdkhainlcalbaa", sum := "7ba1d0fd96b8bc45f23d32719dde51df2cd334db8b173d93a07b423ec3a001ad", func := "cellarer/cellarerlaw14.DiskRoom", spec := "diskRoom", inPlace := ["maps.clone"], unfollowed := true, recurses := true, apart := false }
def DiskRoomSaid : Prop := diskRoomRow.holds Try.pinned (OpenSpec.ofChange diskRoomSpec)

/-- ITS FALSE NEIGHBOUR: 'it returns false'. Refute it at one input. -/
def diskRoomWrong : ChangeSpec := { name := "diskRoom", fn := fun _ => fun
  | [d1, d2] => { results := [.lit (.bool false)], args := [d1, d2] }
  | _ => none }
def DiskRoomWrongFalsely : Prop := diskRoomRow.holds Try.pinned (OpenSpec.ofChange diskRoomWrong)

/-- 'cellarerlaw14.DiskSwaps': WHATEVER THE INPUT: true; the input reads as it did. -/
def diskSwapsSpec : ChangeSpec := { name := "diskSwaps", fn := fun _ => fun
  | [d1, d2, d3, d4] => { results := [.lit (.bool true)], args := [d1, d2, d3, d4] }
  | _ => none }
def diskSwapsRow : OpenClaim := { program := "ytjdkhainlcalbaa", sum := "7ba1d0fd96b8bc45f23d32719dde51df2cd334db8b173d93a07b423ec3a001ad", func := "cellarer/cellarerlaw14.DiskSwaps", spec := "diskSwaps", inPlace := ["maps.clone"], unfollowed := true, recurses := true, apart := false }
def DiskSwapsSaid : Prop := diskSwapsRow.holds Try.pinned (OpenSpec.ofChange diskSwapsSpec)

/-- ITS FALSE NEIGHBOUR: 'it returns false'. Refute it at one input. -/
def diskSwapsWrong : ChangeSpec := { name := "diskSwaps", fn := fun _ => fun
  | [d1, d2, d3, d4] => { results := [.lit (.bool false)], args := [d1, d2, d3, d4] }
  | _ => none }
def DiskSwapsWrongFalsely : Prop := diskSwapsRow.holds Try.pinned (OpenSpec.ofChange diskSwapsWrong)

/-- 'cellarerlaw14.DiskDies': WHATEVER THE INPUT: true; the input reads as it did. -/
def diskDiesSpec : ChangeSpec := { name := "diskDies", fn := fun _ => fun
  | [d1, d2] => { results := [.lit (.bool true)], args := [d1, d2] }
  | _ => none }
def diskDiesRow : OpenClaim := { program := "ytjdkhainlcalbaa", sum := "7ba1d0fd96b8bc45f23d32719dde51df2cd334db8b173d93a07b423ec3a001ad", func := "cellarer/cellarerlaw14.DiskDies", spec := "diskDies", inPlace := ["maps.clone"], unfollowed := true, recurses := true, apart := false }
def DiskDiesSaid : Prop := diskDiesRow.holds Try.pinned (OpenSpec.ofChange diskDiesSpec)

/-- ITS FALSE NEIGHBOUR: 'it returns false'. Refute it at one input. -/
def diskDiesWrong : ChangeSpec := { name := "diskDies", fn := fun _ => fun
  | [d1, d2] => { results := [.lit (.bool false)], args := [d1, d2] }
  | _ => none }
def DiskDiesWrongFalsely : Prop := diskDiesRow.holds Try.pinned (OpenSpec.ofChange diskDiesWrong)

/-- 'cellarerlaw17.IndexReads': WHATEVER THE INPUT: true; the input reads as it did. -/
def indexReadsSpec : ChangeSpec := { name := "indexReads", fn := fun _ => fun
  | [d] => { results := [.lit (.bool true)], args := [d] }
  | _ => none }
def indexReadsRow : OpenClaim := { program := "ytjdkhainlcalbaa", sum := "7ba1d0fd96b8bc45f23d32719dde51df2cd334db8b173d93a07b423ec3a001ad", func := "cellarer/cellarerlaw17.IndexReads", spec := "indexReads", unfollowed := true, recurses := true, apart := false }
def IndexReadsSaid : Prop := indexReadsRow.holds Try.pinned (OpenSpec.ofChange indexReadsSpec)

/-- ITS FALSE NEIGHBOUR: 'it returns false'. Refute it at one input. -/
def indexReadsWrong : ChangeSpec := { name := "indexReads", fn := fun _ => fun
  | [d] => { results := [.lit (.bool false)], args := [d] }
  | _ => none }
def IndexReadsWrongFalsely : Prop := indexReadsRow.holds Try.pinned (OpenSpec.ofChange indexReadsWrong)

/-- 'cellarerlaw17.IndexBack': WHATEVER THE INPUT: true; the input reads as it did. -/
def indexBackSpec : ChangeSpec := { name := "indexBack", fn := fun _ => fun
  | [d1, d2] => { results := [.lit (.bool true)], args := [d1, d2] }
  | _ => none }
def indexBackRow : OpenClaim := { program := "ytjdkhainlcalbaa", sum := "7ba1d0fd96b8bc45f23d32719dde51df2cd334db8b173d93a07b423ec3a001ad", func := "cellarer/cellarerlaw17.IndexBack", spec := "indexBack", unfollowed := true, recurses := true, apart := false }
def IndexBackSaid : Prop := indexBackRow.holds Try.pinned (OpenSpec.ofChange indexBackSpec)

/-- ITS FALSE NEIGHBOUR: 'it returns false'. Refute it at one input. -/
def indexBackWrong : ChangeSpec := { name := "indexBack", fn := fun _ => fun
  | [d1, d2] => { results := [.lit (.bool false)], args := [d1, d2] }
  | _ => none }
def IndexBackWrongFalsely : Prop := indexBackRow.holds Try.pinned (OpenSpec.ofChange indexBackWrong)

/-- 'cellarerlaw14.DiskSafe': WHATEVER THE INPUT: true; the input reads as it did. -/
def diskSafeSpec : ChangeSpec := { name := "diskSafe", fn := fun _ => fun
  | [d1, d2, d3, d4] => { results := [.lit (.bool true)], args := [d1, d2, d3, d4] }
  | _ => none }
def diskSafeRow : OpenClaim := { program := "ytjdkhainlcalbaa", sum := "7ba1d0fd96b8bc45f23d32719dde51df2cd334db8b173d93a07b423ec3a001ad", func := "cellarer/cellarerlaw14.DiskSafe", spec := "diskSafe", inPlace := ["maps.clone"], unfollowed := true, recurses := true, apart := false }
def DiskSafeSaid : Prop := diskSafeRow.holds Try.pinned (OpenSpec.ofChange diskSafeSpec)

/-- ITS FALSE NEIGHBOUR: 'it returns false'. Refute it at one input. -/
def diskSafeWrong : ChangeSpec := { name := "diskSafe", fn := fun _ => fun
  | [d1, d2, d3, d4] => { results := [.lit (.bool false)], args := [d1, d2, d3, d4] }
  | _ => none }
def DiskSafeWrongFalsely : Prop := diskSafeRow.holds Try.pinned (OpenSpec.ofChange diskSafeWrong)

/-- 'cellarerlaw15.WalPlays': WHATEVER THE INPUT: true; the input reads as it did. -/
def walPlaysSpec : ChangeSpec := { name := "walPlays", fn := fun _ => fun
  | [d1, d2] => { results := [.lit (.bool true)], args := [d1, d2] }
  | _ => none }
def walPlaysRow : OpenClaim := { program := "ytjdkhainlcalbaa", sum := "7ba1d0fd96b8bc45f23d32719dde51df2cd334db8b173d93a07b423ec3a001ad", func := "cellarer/cellarerlaw15.WalPlays", spec := "walPlays", inPlace := ["maps.clone"], unfollowed := true, recurses := true, apart := false }
def WalPlaysSaid : Prop := walPlaysRow.holds Try.pinned (OpenSpec.ofChange walPlaysSpec)

/-- ITS FALSE NEIGHBOUR: 'it returns false'. Refute it at one input. -/
def walPlaysWrong : ChangeSpec := { name := "walPlays", fn := fun _ => fun
  | [d1, d2] => { results := [.lit (.bool false)], args := [d1, d2] }
  | _ => none }
def WalPlaysWrongFalsely : Prop := walPlaysRow.holds Try.pinned (OpenSpec.ofChange walPlaysWrong)

/-- 'cellarerlaw15.WalBytes': WHATEVER THE INPUT: true; the input reads as it did. -/
def walBytesSpec : ChangeSpec := { name := "walBytes", fn := fun _ => fun
  | [d1, d2] => { results := [.lit (.bool true)], args := [d1, d2] }
  | _ => none }
def walBytesRow : OpenClaim := { program := "ytjdkhainlcalbaa", sum := "7ba1d0fd96b8bc45f23d32719dde51df2cd334db8b173d93a07b423ec3a001ad", func := "cellarer/cellarerlaw15.WalBytes", spec := "walBytes", inPlace := ["maps.clone"], unfollowed := true, recurses := true, apart := false }
def WalBytesSaid : Prop := walBytesRow.holds Try.pinned (OpenSpec.ofChange walBytesSpec)

/-- ITS FALSE NEIGHBOUR: 'it returns false'. Refute it at one input. -/
def walBytesWrong : ChangeSpec := { name := "walBytes", fn := fun _ => fun
  | [d1, d2] => { results := [.lit (.bool false)], args := [d1, d2] }
  | _ => none }
def WalBytesWrongFalsely : Prop := walBytesRow.holds Try.pinned (OpenSpec.ofChange walBytesWrong)

/-- 'cellarerlaw15.WalOpens': WHATEVER THE INPUT: true; the input reads as it did. -/
def walOpensSpec : ChangeSpec := { name := "walOpens", fn := fun _ => fun
  | [d1, d2, d3, d4] => { results := [.lit (.bool true)], args := [d1, d2, d3, d4] }
  | _ => none }
def walOpensRow : OpenClaim := { program := "ytjdkhainlcalbaa", sum := "7ba1d0fd96b8bc45f23d32719dde51df2cd334db8b173d93a07b423ec3a001ad", func := "cellarer/cellarerlaw15.WalOpens", spec := "walOpens", inPlace := ["maps.clone"], unfollowed := true, recurses := true, apart := false }
def WalOpensSaid : Prop := walOpensRow.holds Try.pinned (OpenSpec.ofChange walOpensSpec)

/-- ITS FALSE NEIGHBOUR: 'it returns false'. Refute it at one input. -/
def walOpensWrong : ChangeSpec := { name := "walOpens", fn := fun _ => fun
  | [d1, d2, d3, d4] => { results := [.lit (.bool false)], args := [d1, d2, d3, d4] }
  | _ => none }
def WalOpensWrongFalsely : Prop := walOpensRow.holds Try.pinned (OpenSpec.ofChange walOpensWrong)

/-- 'cellarerlaw15.WalCrashes': WHATEVER THE INPUT: true; the input reads as it did. -/
def walCrashesSpec : ChangeSpec := { name := "walCrashes", fn := fun _ => fun
  | [d] => { results := [.lit (.bool true)], args := [d] }
  | _ => none }
def walCrashesRow : OpenClaim := { program := "ytjdkhainlcalbaa", sum := "7ba1d0fd96b8bc45f23d32719dde51df2cd334db8b173d93a07b423ec3a001ad", func := "cellarer/cellarerlaw15.WalCrashes", spec := "walCrashes", inPlace := ["maps.clone"], unfollowed := true, recurses := true, apart := false }
def WalCrashesSaid : Prop := walCrashesRow.holds Try.pinned (OpenSpec.ofChange walCrashesSpec)

/-- ITS FALSE NEIGHBOUR: 'it returns false'. Refute it at one input. -/
def walCrashesWrong : ChangeSpec := { name := "walCrashes", fn := fun _ => fun
  | [d] => { results := [.lit (.bool false)], args := [d] }
  | _ => none }
def WalCrashesWrongFalsely : Prop := walCrashesRow.holds Try.pinned (OpenSpec.ofChange walCrashesWrong)

/- THE SECOND FORM. 'bulk': how many values and letters a reading holds, each counted each time it is reached (what is shared counts as often as it is met; a slice's spare places count too). A statement '..UptoSaid' is the law's where the arguments, and the package variables that the reading takes, are together of bulk at most 1048576: NARROWER than '..Said'. Prove '..Said' where nothing that the law and all that it calls make is longer than what came in: it says more and counts as full. Else prove '..UptoSaid'. A law counts once. -/
mutual
def uptoBulk {H : Type} : DataW H → Nat
  | .lit (.string bytes) => bytes.length + 1
  | .lit _ => 1
  | .nil => 1
  | .ptr d => uptoBulk d + 1
  | .slice elems spare => uptoBulkAll elems + uptoBulkAll spare + 1
  | .agg parts => uptoBulkAll parts + 1
  | .iface _ d => uptoBulk d + 1
  | .map entries => uptoBulkEntries entries + 1
  | .held _ => 1
def uptoBulkAll {H : Type} : List (DataW H) → Nat
  | [] => 0
  | d :: r => uptoBulk d + uptoBulkAll r
def uptoBulkEntries {H : Type} : List (Lit × DataW H) → Nat
  | [] => 0
  | x :: r => uptoBulkEntry x + uptoBulkEntries r
def uptoBulkEntry {H : Type} : Lit × DataW H → Nat
  | (.string bytes, d) => bytes.length + uptoBulk d + 1
  | (_, d) => uptoBulk d + 1
 end
def uptoSmall : (H : Type) → List (DataW H) → Bool := fun _ ds => decide (uptoBulkAll ds ≤ 1048576)
def OpenSpec.upto (s : _root_.Go.ChangeSpec) : _root_.Go.OpenSpec := { _root_.Go.OpenSpec.ofChange s with cond := some uptoSmall }

/-- 'cellarerlaw17.IndexElder', WHERE WHAT IT READS IS OF BULK AT MOST 1048576: true; the input reads as it did. -/
def indexElderUptoRow : OpenClaim := { program := "ytjdkhainlcalbaa", sum := "7ba1d0fd96b8bc45f23d32719dde51df2cd334db8b173d93a07b423ec3a001ad", func := "cellarer/cellarerlaw17.IndexElder", spec := "indexElder", unfollowed := true, recurses := true, apart := false, narrowed := true }
def IndexElderUptoSaid : Prop := indexElderUptoRow.holds Try.pinned (OpenSpec.upto indexElderSpec)

/-- 'cellarerlaw17.IndexAdds', WHERE WHAT IT READS IS OF BULK AT MOST 1048576: true; the input reads as it did. -/
def indexAddsUptoRow : OpenClaim := { program := "ytjdkhainlcalbaa", sum := "7ba1d0fd96b8bc45f23d32719dde51df2cd334db8b173d93a07b423ec3a001ad", func := "cellarer/cellarerlaw17.IndexAdds", spec := "indexAdds", unfollowed := true, recurses := true, apart := false, narrowed := true }
def IndexAddsUptoSaid : Prop := indexAddsUptoRow.holds Try.pinned (OpenSpec.upto indexAddsSpec)

/-- 'cellarerlaw14.DiskRoom', WHERE WHAT IT READS IS OF BULK AT MOST 1048576: true; the input reads as it did. -/
def diskRoomUptoRow : OpenClaim := { program := "ytjdkhainlcalbaa", sum := "7ba1d0fd96b8bc45f23d32719dde51df2cd334db8b173d93a07b423ec3a001ad", func := "cellarer/cellarerlaw14.DiskRoom", spec := "diskRoom", inPlace := ["maps.clone"], unfollowed := true, recurses := true, apart := false, narrowed := true }
def DiskRoomUptoSaid : Prop := diskRoomUptoRow.holds Try.pinned (OpenSpec.upto diskRoomSpec)

/-- 'cellarerlaw14.DiskSwaps', WHERE WHAT IT READS IS OF BULK AT MOST 1048576: true; the input reads as it did. -/
def diskSwapsUptoRow : OpenClaim := { program := "ytjdkhainlcalbaa", sum := "7ba1d0fd96b8bc45f23d32719dde51df2cd334db8b173d93a07b423ec3a001ad", func := "cellarer/cellarerlaw14.DiskSwaps", spec := "diskSwaps", inPlace := ["maps.clone"], unfollowed := true, recurses := true, apart := false, narrowed := true }
def DiskSwapsUptoSaid : Prop := diskSwapsUptoRow.holds Try.pinned (OpenSpec.upto diskSwapsSpec)

/-- 'cellarerlaw14.DiskDies', WHERE WHAT IT READS IS OF BULK AT MOST 1048576: true; the input reads as it did. -/
def diskDiesUptoRow : OpenClaim := { program := "ytjdkhainlcalbaa", sum := "7ba1d0fd96b8bc45f23d32719dde51df2cd334db8b173d93a07b423ec3a001ad", func := "cellarer/cellarerlaw14.DiskDies", spec := "diskDies", inPlace := ["maps.clone"], unfollowed := true, recurses := true, apart := false, narrowed := true }
def DiskDiesUptoSaid : Prop := diskDiesUptoRow.holds Try.pinned (OpenSpec.upto diskDiesSpec)

/-- 'cellarerlaw17.IndexReads', WHERE WHAT IT READS IS OF BULK AT MOST 1048576: true; the input reads as it did. -/
def indexReadsUptoRow : OpenClaim := { program := "ytjdkhainlcalbaa", sum := "7ba1d0fd96b8bc45f23d32719dde51df2cd334db8b173d93a07b423ec3a001ad", func := "cellarer/cellarerlaw17.IndexReads", spec := "indexReads", unfollowed := true, recurses := true, apart := false, narrowed := true }
def IndexReadsUptoSaid : Prop := indexReadsUptoRow.holds Try.pinned (OpenSpec.upto indexReadsSpec)

/-- 'cellarerlaw17.IndexBack', WHERE WHAT IT READS IS OF BULK AT MOST 1048576: true; the input reads as it did. -/
def indexBackUptoRow : OpenClaim := { program := "ytjdkhainlcalbaa", sum := "7ba1d0fd96b8bc45f23d32719dde51df2cd334db8b173d93a07b423ec3a001ad", func := "cellarer/cellarerlaw17.IndexBack", spec := "indexBack", unfollowed := true, recurses := true, apart := false, narrowed := true }
def IndexBackUptoSaid : Prop := indexBackUptoRow.holds Try.pinned (OpenSpec.upto indexBackSpec)

/-- 'cellarerlaw14.DiskSafe', WHERE WHAT IT READS IS OF BULK AT MOST 1048576: true; the input reads as it did. -/
def diskSafeUptoRow : OpenClaim := { program := "ytjdkhainlcalbaa", sum := "7ba1d0fd96b8bc45f23d32719dde51df2cd334db8b173d93a07b423ec3a001ad", func := "cellarer/cellarerlaw14.DiskSafe", spec := "diskSafe", inPlace := ["maps.clone"], unfollowed := true, recurses := true, apart := false, narrowed := true }
def DiskSafeUptoSaid : Prop := diskSafeUptoRow.holds Try.pinned (OpenSpec.upto diskSafeSpec)

/-- 'cellarerlaw15.WalPlays', WHERE WHAT IT READS IS OF BULK AT MOST 1048576: true; the input reads as it did. -/
def walPlaysUptoRow : OpenClaim := { program := "ytjdkhainlcalbaa", sum := "7ba1d0fd96b8bc45f23d32719dde51df2cd334db8b173d93a07b423ec3a001ad", func := "cellarer/cellarerlaw15.WalPlays", spec := "walPlays", inPlace := ["maps.clone"], unfollowed := true, recurses := true, apart := false, narrowed := true }
def WalPlaysUptoSaid : Prop := walPlaysUptoRow.holds Try.pinned (OpenSpec.upto walPlaysSpec)

/-- 'cellarerlaw15.WalBytes', WHERE WHAT IT READS IS OF BULK AT MOST 1048576: true; the input reads as it did. -/
def walBytesUptoRow : OpenClaim := { program := "ytjdkhainlcalbaa", sum := "7ba1d0fd96b8bc45f23d32719dde51df2cd334db8b173d93a07b423ec3a001ad", func := "cellarer/cellarerlaw15.WalBytes", spec := "walBytes", inPlace := ["maps.clone"], unfollowed := true, recurses := true, apart := false, narrowed := true }
def WalBytesUptoSaid : Prop := walBytesUptoRow.holds Try.pinned (OpenSpec.upto walBytesSpec)

/-- 'cellarerlaw15.WalOpens', WHERE WHAT IT READS IS OF BULK AT MOST 1048576: true; the input reads as it did. -/
def walOpensUptoRow : OpenClaim := { program := "ytjdkhainlcalbaa", sum := "7ba1d0fd96b8bc45f23d32719dde51df2cd334db8b173d93a07b423ec3a001ad", func := "cellarer/cellarerlaw15.WalOpens", spec := "walOpens", inPlace := ["maps.clone"], unfollowed := true, recurses := true, apart := false, narrowed := true }
def WalOpensUptoSaid : Prop := walOpensUptoRow.holds Try.pinned (OpenSpec.upto walOpensSpec)

/-- 'cellarerlaw15.WalCrashes', WHERE WHAT IT READS IS OF BULK AT MOST 1048576: true; the input reads as it did. -/
def walCrashesUptoRow : OpenClaim := { program := "ytjdkhainlcalbaa", sum := "7ba1d0fd96b8bc45f23d32719dde51df2cd334db8b173d93a07b423ec3a001ad", func := "cellarer/cellarerlaw15.WalCrashes", spec := "walCrashes", inPlace := ["maps.clone"], unfollowed := true, recurses := true, apart := false, narrowed := true }
def WalCrashesUptoSaid : Prop := walCrashesUptoRow.holds Try.pinned (OpenSpec.upto walCrashesSpec)

end Rows
end Go.Proofs.Ytjdkhainlcalbaa
