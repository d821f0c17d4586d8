/- The library's functions at this seat: laid by the kit's lay-shelf.mjs and lay-plain.mjs. Runes of a text: the model's decoding at a place; path's broken. Names: the program's, and the document's. path.Is: a range over strings.SplitSeq. Comparing part by part: slices.Compare. From a card's premises to the library's variables; the wrap that keeps the world's shape and the listed variables. -/
import Derived.Shelf.Utf8.AppendRune
import Derived.Shelf.Utf8.AppendRunePlain
import Derived.Shelf.Utf8.RuneCount
import Derived.Shelf.Strings.Search1
import Derived.Shelf.Strings.Search2
import Derived.Shelf.Strings.Search3
import Derived.Shelf.Strings.Count
import Derived.Shelf.LaysM
import Derived.Shelf.Strings.Shaped
import Derived.Shelf.Strings.LastIndex
import Derived.Shelf.Strings.Split
import Derived.Shelf.Strings.SplitShaped
import Derived.Shelf.Unicode.Decode
import Derived.Shelf.Strings.RuneCount
import Derived.Shelf.Strings.Explode
import Derived.Shelf.Unicode.DecodeSlow
import Derived.Shelf.Unicode.DecodeAny
import Derived.Ground.PaProg
import Derived.Shelf.Path.Small
import Derived.Test.YtaoejgnfoecpfaaDoorProg
import Derived.Test.YtaoejgnfoecpfaaDoorJk2
import Derived.Lib.OthersKept
import Derived.RangeFuncNested
import Derived.RangeFuncBound
import Derived.RangeFuncCalls
import Derived.RangeFuncLeaves
import Derived.Shelf.Abstract
import Derived.Shelf.RegionOpen
import Derived.WalkKit
import Derived.OwnWalkIn
import Derived.TacticsInMore
import Derived.LoopNIn
import Derived.LoopIn
import Derived.Test.YtaoejgnfoecpfaaDoorRows
import Derived.Handed
import Derived.HandedShaped
import Derived.Shelf.Vars
import Derived.Lib.LaidU8
import Derived.MakeChecks
import Derived.Lay
import Derived.LaidMore
import Derived.Stop.Joined
namespace Go.Proofs.YtaoejgnfoecpfaaDoor
set_option linter.unusedVariables false
set_option linter.unusedSimpArgs false
set_option linter.unusedSectionVars false
open Go.Shelf
def Tryd.lays242_ren : Go.Shelf.Ren := ⟨fun | 242 => 71 | 278 => 104 | n => n, fun | 37 => 46 | 21 => 21 | 51 => 153 | 4 => 4 | 5 => 5 | 46 => 162 | n => n, fun | n => n⟩
theorem Tryd.lays242 : Go.Proofs.Lays.n242 Tryd.prog Tryd.lays242_ren := {
  mixed := by kernel_rfl
  f242 := Tryd.func71.trans (congrArg some (by kernel_rfl))
  f278 := Tryd.func104.trans (congrArg some (by kernel_rfl))
  t4 := Tryd.underlying4
  a4 := Tryd.isAgg4
  z4 := Tryd.sizeOf4
  v4 := Tryd.zeroValue4
  t5 := Tryd.underlying5
  a5 := Tryd.isAgg5
  z5 := Tryd.sizeOf5
  v5 := Tryd.zeroValue5
  t21 := Tryd.underlying21
  a21 := Tryd.isAgg21
  z21 := Tryd.sizeOf21
  v21 := Tryd.zeroValue21
  t37 := Tryd.underlying46
  a37 := Tryd.isAgg46
  z37 := Tryd.sizeOf46
  v37 := Tryd.zeroValue46
  t46 := Tryd.underlying162
  a46 := Tryd.isAgg162
  z46 := Tryd.sizeOf162
  v46 := Tryd.zeroValue162
  t51 := Tryd.underlying153
  a51 := Tryd.isAgg153
  z51 := Tryd.sizeOf153
  v51 := Tryd.zeroValue153 }
open Go.RowKit in
/-- unicode/utf8.AppendRune: "AppendRune appends the UTF-8 encoding of r to the end of p and returns the extended buffer. If the rune is out of range, it appends the encoding of RuneError.": ONTO A ROW OF BYTES THAT THE CALL OWNS (its head frozen or not): EVERY int32: 'Lib.runeCells r' goes in behind what the row holds; the world: one new block (the bytes as the call's variadic argument), then what 'append' does to the row. (LAID: no walk: one application.) -/
theorem Tryd.utf8_AppendRune_plain (B : Nat) (v : Value) (n : Nat) (xs : List Value) (r : Int) (hr0 : -2147483648 ≤ r) (hr1 : r ≤ 2147483647) (w : World) (hown : w.ownsRow B 5 1 v n xs) (hlen : n + 4 ≤ 140737488355328) (hBw : B ≤ w.heap.size) :
    Calls Tryd.prog 71 #[v, .int .i32 r] w fun e w' => ∃ v', e = .returned v' ∧ w'.ownsRow B 5 1 v' (n + (Lib.runeCells r).length) (xs ++ Lib.runeCells r) ∧ ∃ o, (w.alloc o).grownBy w' v.ownBlock := Any.utf8_AppendRune_plain Tryd.lays242 (by kernel_rfl) B v n xs r hr0 hr1 w hown hlen hBw
def Tryd.lays143_ren : Go.Shelf.Ren := ⟨fun | 143 => 96 | 219 => 117 | 217 => 129 | 225 => 130 | 224 => 131 | 267 => 132 | 266 => 149 | 314 => 150 | n => n, fun | 9 => 9 | 3 => 3 | 4 => 4 | 5 => 5 | 46 => 162 | 146 => 189 | 51 => 153 | n => n, fun | 1 => 0 | n => n⟩
theorem Tryd.lays143 : Go.Proofs.Lays.n143 Tryd.prog Tryd.lays143_ren := {
  mixed := by kernel_rfl
  f143 := Tryd.func96.trans (congrArg some (by kernel_rfl))
  f217 := Tryd.func129.trans (congrArg some (by kernel_rfl))
  f219 := Tryd.func117.trans (congrArg some (by kernel_rfl))
  f224 := Tryd.func131.trans (congrArg some (by kernel_rfl))
  f225 := Tryd.func130.trans (congrArg some (by kernel_rfl))
  f266 := Tryd.func149.trans (congrArg some (by kernel_rfl))
  f267 := Tryd.func132.trans (congrArg some (by kernel_rfl))
  f314 := Tryd.func150.trans (congrArg some (by kernel_rfl))
  t3 := Tryd.underlying3
  a3 := Tryd.isAgg3
  z3 := Tryd.sizeOf3
  v3 := Tryd.zeroValue3
  t4 := Tryd.underlying4
  a4 := Tryd.isAgg4
  z4 := Tryd.sizeOf4
  v4 := Tryd.zeroValue4
  t5 := Tryd.underlying5
  a5 := Tryd.isAgg5
  z5 := Tryd.sizeOf5
  v5 := Tryd.zeroValue5
  t9 := Tryd.underlying9
  a9 := Tryd.isAgg9
  z9 := Tryd.sizeOf9
  v9 := Tryd.zeroValue9
  t46 := Tryd.underlying162
  a46 := Tryd.isAgg162
  z46 := Tryd.sizeOf162
  v46 := Tryd.zeroValue162
  t51 := Tryd.underlying153
  a51 := Tryd.isAgg153
  z51 := Tryd.sizeOf153
  v51 := Tryd.zeroValue153
  t146 := Tryd.underlying189
  a146 := Tryd.isAgg189
  z146 := Tryd.sizeOf189
  v146 := Tryd.zeroValue189
  g1 := by kernel_rfl }
open Go.RowKit Go.Lib in
/-- strings.Index: "Index returns the index of the first instance of substr in s, or -1 if substr is not present in s.": IT RETURNS 'Lib.index s substr'; the world is as it was. (LAID: no walk: one application.) -/
theorem Tryd.strings_Index (s sub : ByteArray) (m : Int) (w : World) (hs : s.size < 4294967281) (hm : w.cell? ⟨0, 0, none⟩ = some (.int .i64 m)) :
    Calls Tryd.prog 96 #[.string s, .string sub] w fun e w' => e = .returned (.int .i64 (Lib.index s.data.toList sub.data.toList)) ∧ w' = w := Any.strings_Index Tryd.lays143 s sub m w hs hm
def Tryd.lays138_ren : Go.Shelf.Ren := ⟨fun | 138 => 61 | 195 => 94 | 218 => 95 | 143 => 96 | 219 => 117 | 217 => 129 | 225 => 130 | 224 => 131 | 267 => 132 | 266 => 149 | 314 => 150 | n => n, fun | 9 => 9 | 3 => 3 | 4 => 4 | 5 => 5 | 0 => 0 | 46 => 162 | 146 => 189 | 51 => 153 | n => n, fun | 1 => 0 | n => n⟩
theorem Tryd.lays138 : Go.Proofs.Lays.n138 Tryd.prog Tryd.lays138_ren := {
  mixed := by kernel_rfl
  f138 := Tryd.func61.trans (congrArg some (by kernel_rfl))
  f143 := Tryd.func96.trans (congrArg some (by kernel_rfl))
  f195 := Tryd.func94.trans (congrArg some (by kernel_rfl))
  f217 := Tryd.func129.trans (congrArg some (by kernel_rfl))
  f218 := Tryd.func95.trans (congrArg some (by kernel_rfl))
  f219 := Tryd.func117.trans (congrArg some (by kernel_rfl))
  f224 := Tryd.func131.trans (congrArg some (by kernel_rfl))
  f225 := Tryd.func130.trans (congrArg some (by kernel_rfl))
  f266 := Tryd.func149.trans (congrArg some (by kernel_rfl))
  f267 := Tryd.func132.trans (congrArg some (by kernel_rfl))
  f314 := Tryd.func150.trans (congrArg some (by kernel_rfl))
  t0 := Tryd.underlying0
  a0 := Tryd.isAgg0
  z0 := Tryd.sizeOf0
  v0 := Tryd.zeroValue0
  t3 := Tryd.underlying3
  a3 := Tryd.isAgg3
  z3 := Tryd.sizeOf3
  v3 := Tryd.zeroValue3
  t4 := Tryd.underlying4
  a4 := Tryd.isAgg4
  z4 := Tryd.sizeOf4
  v4 := Tryd.zeroValue4
  t5 := Tryd.underlying5
  a5 := Tryd.isAgg5
  z5 := Tryd.sizeOf5
  v5 := Tryd.zeroValue5
  t9 := Tryd.underlying9
  a9 := Tryd.isAgg9
  z9 := Tryd.sizeOf9
  v9 := Tryd.zeroValue9
  t46 := Tryd.underlying162
  a46 := Tryd.isAgg162
  z46 := Tryd.sizeOf162
  v46 := Tryd.zeroValue162
  t51 := Tryd.underlying153
  a51 := Tryd.isAgg153
  z51 := Tryd.sizeOf153
  v51 := Tryd.zeroValue153
  t146 := Tryd.underlying189
  a146 := Tryd.isAgg189
  z146 := Tryd.sizeOf189
  v146 := Tryd.zeroValue189
  g1 := by kernel_rfl }
def Tryd.lays149_ren : Go.Shelf.Ren := ⟨fun | 149 => 69 | 222 => 102 | n => n, fun | 9 => 9 | 5 => 5 | 3 => 3 | 4 => 4 | n => n, fun | n => n⟩
theorem Tryd.lays149 : Go.Proofs.Lays.n149 Tryd.prog Tryd.lays149_ren := {
  mixed := by kernel_rfl
  f149 := Tryd.func69.trans (congrArg some (by kernel_rfl))
  f222 := Tryd.func102.trans (congrArg some (by kernel_rfl))
  t3 := Tryd.underlying3
  a3 := Tryd.isAgg3
  z3 := Tryd.sizeOf3
  v3 := Tryd.zeroValue3
  t4 := Tryd.underlying4
  a4 := Tryd.isAgg4
  z4 := Tryd.sizeOf4
  v4 := Tryd.zeroValue4
  t5 := Tryd.underlying5
  a5 := Tryd.isAgg5
  z5 := Tryd.sizeOf5
  v5 := Tryd.zeroValue5
  t9 := Tryd.underlying9
  a9 := Tryd.isAgg9
  z9 := Tryd.sizeOf9
  v9 := Tryd.zeroValue9 }
open Go.RowKit Go.Lib in
/-- strings.LastIndexByte: "LastIndexByte returns the index of the last instance of c in s, or -1 if c is not present in s." (LAID: no walk: one application.) -/
theorem Tryd.strings_LastIndexByte (s : ByteArray) (c : Int) (hs : s.size < 4611686018427387904) (w : World) :
    Calls Tryd.prog 69 #[.string s, .int .u8 c] w fun e w' => e = .returned (.int .i64 (Lib.lastIndexByte s c)) ∧ w' = w := Any.strings_LastIndexByte Tryd.lays149 s c hs w
open Go.RowKit Go.Lib in
/-- strings.Count at whatever sep that is not empty: the two roads under one statement. (LAID: no walk: one application.) -/
theorem Tryd.strings_Count_any (s sep : ByteArray) (m : Int) (w : World) (hs : s.size < 4294967281) (hm : w.cell? ⟨0, 0, none⟩ = some (.int .i64 m)) (h1 : 1 ≤ sep.size) :
    Calls Tryd.prog 61 #[.string s, .string sep] w fun e w' => e = .returned (.int .i64 (Lib.countB s sep)) ∧ w' = w := Any.strings_Count_any Tryd.lays138 s sep m w hs hm h1
def Tryd.lays146_ren : Go.Shelf.Ren := ⟨fun | 146 => 116 | 221 => 128 | 268 => 148 | 138 => 61 | 143 => 96 | 195 => 94 | 197 => 103 | 218 => 95 | 219 => 117 | 260 => 119 | 217 => 129 | 225 => 130 | 224 => 131 | 267 => 132 | 266 => 149 | 314 => 150 | n => n, fun | 9 => 9 | 31 => 50 | 3 => 3 | 4 => 4 | 0 => 0 | 105 => 151 | 21 => 21 | 5 => 5 | 46 => 162 | 119 => 170 | 139 => 173 | 138 => 172 | 146 => 189 | 51 => 153 | n => n, fun | 1 => 0 | 3 => 1 | 4 => 2 | n => n⟩
theorem Tryd.lays146 : Go.Proofs.Lays.n146 Tryd.prog Tryd.lays146_ren := {
  mixed := by kernel_rfl
  f138 := Tryd.func61.trans (congrArg some (by kernel_rfl))
  f143 := Tryd.func96.trans (congrArg some (by kernel_rfl))
  f146 := Tryd.func116.trans (congrArg some (by kernel_rfl))
  f195 := Tryd.func94.trans (congrArg some (by kernel_rfl))
  f197 := Tryd.func103.trans (congrArg some (by kernel_rfl))
  f217 := Tryd.func129.trans (congrArg some (by kernel_rfl))
  f218 := Tryd.func95.trans (congrArg some (by kernel_rfl))
  f219 := Tryd.func117.trans (congrArg some (by kernel_rfl))
  f221 := Tryd.func128.trans (congrArg some (by kernel_rfl))
  f224 := Tryd.func131.trans (congrArg some (by kernel_rfl))
  f225 := Tryd.func130.trans (congrArg some (by kernel_rfl))
  f260 := Tryd.func119.trans (congrArg some (by kernel_rfl))
  f266 := Tryd.func149.trans (congrArg some (by kernel_rfl))
  f267 := Tryd.func132.trans (congrArg some (by kernel_rfl))
  f268 := Tryd.func148.trans (congrArg some (by kernel_rfl))
  f314 := Tryd.func150.trans (congrArg some (by kernel_rfl))
  t0 := Tryd.underlying0
  a0 := Tryd.isAgg0
  z0 := Tryd.sizeOf0
  v0 := Tryd.zeroValue0
  t3 := Tryd.underlying3
  a3 := Tryd.isAgg3
  z3 := Tryd.sizeOf3
  v3 := Tryd.zeroValue3
  t4 := Tryd.underlying4
  a4 := Tryd.isAgg4
  z4 := Tryd.sizeOf4
  v4 := Tryd.zeroValue4
  t5 := Tryd.underlying5
  a5 := Tryd.isAgg5
  z5 := Tryd.sizeOf5
  v5 := Tryd.zeroValue5
  t9 := Tryd.underlying9
  a9 := Tryd.isAgg9
  z9 := Tryd.sizeOf9
  v9 := Tryd.zeroValue9
  t21 := Tryd.underlying21
  a21 := Tryd.isAgg21
  z21 := Tryd.sizeOf21
  v21 := Tryd.zeroValue21
  t31 := Tryd.underlying50
  a31 := Tryd.isAgg50
  z31 := Tryd.sizeOf50
  v31 := Tryd.zeroValue50
  t46 := Tryd.underlying162
  a46 := Tryd.isAgg162
  z46 := Tryd.sizeOf162
  v46 := Tryd.zeroValue162
  t51 := Tryd.underlying153
  a51 := Tryd.isAgg153
  z51 := Tryd.sizeOf153
  v51 := Tryd.zeroValue153
  t105 := Tryd.underlying151
  a105 := Tryd.isAgg151
  z105 := Tryd.sizeOf151
  v105 := Tryd.zeroValue151
  t119 := Tryd.underlying170
  a119 := Tryd.isAgg170
  z119 := Tryd.sizeOf170
  t138 := Tryd.underlying172
  a138 := Tryd.isAgg172
  z138 := Tryd.sizeOf172
  v138 := Tryd.zeroValue172
  t139 := Tryd.underlying173
  a139 := Tryd.isAgg173
  z139 := Tryd.sizeOf173
  v139 := Tryd.zeroValue173
  t146 := Tryd.underlying189
  a146 := Tryd.isAgg189
  z146 := Tryd.sizeOf189
  v146 := Tryd.zeroValue189
  g1 := by kernel_rfl
  g3 := by kernel_rfl
  g4 := by kernel_rfl }
open Go.RowKit Go.Lib in
/-- strings.Split. (LAID: no walk: one application.) -/
theorem Tryd.strings_Split (s sep : ByteArray) (m : Int) (w : World) (hs : s.size < 4294967281) (hm : w.cell? ⟨0, 0, none⟩ = some (.int .i64 m)) (h1 : 1 ≤ sep.size) :
    Calls Tryd.prog 116 #[.string s, .string sep] w fun e w' =>
      e = .returned (.slice (some ⟨w.heap.size, 0, none⟩) (Lib.countB s sep + 1) (Lib.countB s sep + 1)) ∧ w' = w.alloc (.cells ((Lib.splitB sep 0 (Lib.countB s sep) s).map Value.string).toArray 9) := Any.strings_Split Tryd.lays146 (by kernel_rfl) s sep m w hs hm h1
def Tryd.lays197_ren : Go.Shelf.Ren := ⟨fun | 197 => 103 | 260 => 119 | n => n, fun | 9 => 9 | 21 => 21 | 3 => 3 | 4 => 4 | 5 => 5 | 105 => 151 | 119 => 170 | 0 => 0 | 46 => 162 | 139 => 173 | 138 => 172 | n => n, fun | 3 => 1 | 4 => 2 | n => n⟩
theorem Tryd.lays197 : Go.Proofs.Lays.n197 Tryd.prog Tryd.lays197_ren := {
  mixed := by kernel_rfl
  f197 := Tryd.func103.trans (congrArg some (by kernel_rfl))
  f260 := Tryd.func119.trans (congrArg some (by kernel_rfl))
  t0 := Tryd.underlying0
  a0 := Tryd.isAgg0
  z0 := Tryd.sizeOf0
  v0 := Tryd.zeroValue0
  t3 := Tryd.underlying3
  a3 := Tryd.isAgg3
  z3 := Tryd.sizeOf3
  v3 := Tryd.zeroValue3
  t4 := Tryd.underlying4
  a4 := Tryd.isAgg4
  z4 := Tryd.sizeOf4
  v4 := Tryd.zeroValue4
  t5 := Tryd.underlying5
  a5 := Tryd.isAgg5
  z5 := Tryd.sizeOf5
  v5 := Tryd.zeroValue5
  t9 := Tryd.underlying9
  a9 := Tryd.isAgg9
  z9 := Tryd.sizeOf9
  v9 := Tryd.zeroValue9
  t21 := Tryd.underlying21
  a21 := Tryd.isAgg21
  z21 := Tryd.sizeOf21
  v21 := Tryd.zeroValue21
  t46 := Tryd.underlying162
  a46 := Tryd.isAgg162
  z46 := Tryd.sizeOf162
  v46 := Tryd.zeroValue162
  t105 := Tryd.underlying151
  a105 := Tryd.isAgg151
  z105 := Tryd.sizeOf151
  v105 := Tryd.zeroValue151
  t119 := Tryd.underlying170
  a119 := Tryd.isAgg170
  z119 := Tryd.sizeOf170
  t138 := Tryd.underlying172
  a138 := Tryd.isAgg172
  z138 := Tryd.sizeOf172
  v138 := Tryd.zeroValue172
  t139 := Tryd.underlying173
  a139 := Tryd.isAgg173
  z139 := Tryd.sizeOf173
  v139 := Tryd.zeroValue173
  g3 := by kernel_rfl
  g4 := by kernel_rfl }
open Go.RowKit Go.Lib in
/-- **unicode/utf8.DecodeRuneInString AT EVERY STRING.** (LAID: no walk: one application.) -/
theorem Tryd.utf8_DecodeRuneInString (s : ByteArray) (w : World) (hT : Lib.Utf8Tabs 1 2 w) :
    Calls Tryd.prog 103 #[.string s] w fun e w' => e = .returned (.tuple #[.int .i32 (Lib.decodeGo s).1, .int .i64 (Lib.decodeGo s).2]) ∧ Below w.heap.size w w' := Any.utf8_DecodeRuneInString Tryd.lays197 s w hT
end Go.Proofs.YtaoejgnfoecpfaaDoor
namespace Go.Proofs.YtaoejgnfoecpfaaDoor
set_option linter.unusedVariables false
set_option linter.unusedSimpArgs false
set_option linter.unusedSectionVars false
open Go.RowKit

theorem cont_eq' (s : ByteArray) (i k : Nat) : (decide (i + k < s.size) && (bAt s (i + k) / 64 == 2)) = true ↔ contB s (i + k) := by
  unfold contB
  have := bAt_lt s (i + k)
  simp only [Bool.and_eq_true, decide_eq_true_eq, beq_iff_eq]
  omega
/-- the model's decoding, by a text's bytes from a place on -/
def decF (b : Nat → Nat) (c : Nat → Bool) : Nat × Nat :=
  if b 0 < 128 then (b 0, 1)
  else if (b 0 / 32 == 6 && c 1) = true then (if 128 ≤ (b 0 % 32) * 64 + b 1 % 64 then ((b 0 % 32) * 64 + b 1 % 64, 2) else (65533, 1))
  else if (b 0 / 16 == 14 && c 1 && c 2) = true then (if (decide (2048 ≤ (b 0 % 16) * 4096 + (b 1 % 64) * 64 + b 2 % 64) && Utf8.valid ((b 0 % 16) * 4096 + (b 1 % 64) * 64 + b 2 % 64 : Nat)) = true then ((b 0 % 16) * 4096 + (b 1 % 64) * 64 + b 2 % 64, 3) else (65533, 1))
  else if (b 0 / 8 == 30 && c 1 && c 2 && c 3) = true then (if (decide (65536 ≤ (b 0 % 8) * 262144 + (b 1 % 64) * 4096 + (b 2 % 64) * 64 + b 3 % 64) && Utf8.valid ((b 0 % 8) * 262144 + (b 1 % 64) * 4096 + (b 2 % 64) * 64 + b 3 % 64 : Nat)) = true then ((b 0 % 8) * 262144 + (b 1 % 64) * 4096 + (b 2 % 64) * 64 + b 3 % 64, 4) else (65533, 1))
  else (65533, 1)
def contD (s : ByteArray) (i k : Nat) : Bool := decide (i + k < s.size) && (bAt s (i + k) / 64 == 2)
theorem decode_F (s : ByteArray) (i : Nat) : Utf8.decode s i = decF (fun k => bAt s (i + k)) (contD s i) := rfl
theorem decF_congr {b b' : Nat → Nat} {c c' : Nat → Bool} (h0 : b 0 = b' 0) (hc : ∀ k, c k = c' k) (hb : ∀ k, c' k = true → b k = b' k) : decF b c = decF b' c' := by
  unfold decF
  rw [h0, hc 1, hc 2, hc 3]
  cases h1 : c' 1 with
  | false => simp
  | true =>
    rw [hb 1 h1]
    cases h2 : c' 2 with
    | false => simp
    | true =>
      rw [hb 2 h2]
      cases h3 : c' 3 with
      | false => simp
      | true => rw [hb 3 h3]
theorem bAt_ext (s : ByteArray) (i k : Nat) (h : i + k < s.size) : bAt (s.extract i s.size) k = bAt s (i + k) := by
  have hz : k < (s.extract i s.size).size := by rw [ByteArray.size_extract]; omega
  rw [← bAt_get _ _ hz, ← bAt_get _ _ h]
  congr 1
  show (s.extract i s.size).data[k]'_ = s.data[i + k]'_
  simp [ByteArray.data_extract]
/-- the rest of a text is decoded as the text is from there on -/
theorem decode_ext (s : ByteArray) (i : Nat) (h : i < s.size) : Utf8.decode (s.extract i s.size) 0 = Utf8.decode s i := by
  rw [decode_F, decode_F]
  have hz : (s.extract i s.size).size = s.size - i := by rw [ByteArray.size_extract]; omega
  have hb : ∀ k, i + k < s.size → bAt (s.extract i s.size) (0 + k) = bAt s (i + k) := fun k hk => by rw [Nat.zero_add]; exact bAt_ext s i k hk
  refine decF_congr (hb 0 (by omega)) (fun k => ?_) (fun k hk => hb k ?_)
  · unfold contD
    by_cases hk : i + k < s.size
    · rw [hb k hk, hz, decide_eq_true (show 0 + k < s.size - i by omega), decide_eq_true hk]
    · rw [hz, decide_eq_false (show ¬ 0 + k < s.size - i by omega), decide_eq_false hk]; rfl
  · unfold contD at hk
    simp only [Bool.and_eq_true, decide_eq_true_eq] at hk
    exact hk.1
theorem decode_fits (s : ByteArray) (i : Nat) (h : i < s.size) : 1 ≤ (Utf8.decode s i).2 ∧ (Utf8.decode s i).2 ≤ 4 ∧ i + (Utf8.decode s i).2 ≤ s.size ∧ (Utf8.decode s i).1 ≤ 1114111 := by
  rw [decode_F]
  have hc : ∀ k, contD s i k = true → i + k < s.size := fun k hk => by
    unfold contD at hk
    simp only [Bool.and_eq_true, decide_eq_true_eq] at hk
    exact hk.1
  unfold decF
  split
  · next h0 => exact ⟨by simp, by simp, by simp; omega, Nat.le_trans (Nat.le_of_lt h0) (by decide)⟩
  · split
    · next h1 =>
      simp only [Bool.and_eq_true] at h1
      have := hc 1 h1.2
      split
      · exact ⟨by simp, by simp, by simp; omega, by simp; omega⟩
      · exact ⟨by simp, by simp, by simp; omega, by simp⟩
    · split
      · next h1 =>
        simp only [Bool.and_eq_true] at h1
        have := hc 2 h1.2
        split
        · next h2 =>
          simp only [Bool.and_eq_true, valid_iff] at h2
          exact ⟨by simp, by simp, by simp; omega, by simp only; omega⟩
        · exact ⟨by simp, by simp, by simp; omega, by simp⟩
      · split
        · next h1 =>
          simp only [Bool.and_eq_true] at h1
          have := hc 3 h1.2
          split
          · next h2 =>
            simp only [Bool.and_eq_true, valid_iff] at h2
            exact ⟨by simp, by simp, by simp; omega, by simp only; omega⟩
          · exact ⟨by simp, by simp, by simp; omega, by simp⟩
        · exact ⟨by simp, by simp, by simp; omega, by simp⟩

/-- the library's variables, as they are laid -/
def Env (w : World) : Prop := (∃ m, w.cell? ⟨0, 0, none⟩ = some (.int .i64 m)) ∧ Lib.Utf8Tabs 1 2 w
theorem cellLt {w : World} {p : Addr} {u : Value} (h : w.cell? p = some u) : p.block < w.heap.size := World.block_lt_of_cell? w _ h
theorem Env.below {w w' : World} (h : Env w) (hb : Below w.heap.size w w') : Env w' := by
  obtain ⟨⟨m, hm⟩, h1, h2⟩ := h
  exact ⟨⟨m, (hb.cell (p := ⟨0, 0, none⟩) (cellLt hm)).trans hm⟩, fun c hc => (hb.cell (p := ⟨_, c, none⟩) (cellLt (h1 c hc))).trans (h1 c hc), fun i hi => ⟨(hb.cell (p := ⟨_, 2 * i, none⟩) (cellLt (h2 i hi).1)).trans (h2 i hi).1, (hb.cell (p := ⟨_, 2 * i + 1, none⟩) (cellLt (h2 i hi).2)).trans (h2 i hi).2⟩⟩

/-- a byte that is no rune -/
def brokenB (s : ByteArray) (i : Nat) : Bool := decide (Utf8.decode s i = (65533, 1))
set_option maxRecDepth 100000 in
set_option maxHeartbeats 800000 in
theorem broken_any (s : ByteArray) (i : Nat) (w : World) (he : Env w) (_hs : s.size ≤ 1099511627776) (hi : i < s.size) :
    Calls Tryd.prog 70 #[.string s, .int .i64 i, .int .i32 (Utf8.decode s i).1] w fun e w' => e = .returned (.bool (brokenB s i)) ∧ Below w.heap.size w w' := by
  have hc1 := (decode_fits s i hi).2.2.2
  by_cases h : (Utf8.decode s i).1 = 65533
  · have hz : (s.extract i s.size).size ≠ 0 := by rw [ByteArray.size_extract]; omega
    have hd := Tryd.utf8_DecodeRuneInString (s.extract i s.size) w he.2
    have hg : Lib.decodeGo (s.extract i s.size) = Utf8.decode s i := by unfold Lib.decodeGo; rw [if_neg hz, decode_ext s i hi]
    rw [hg] at hd
    have hb : brokenB s i = ((((Utf8.decode s i).2 : Nat) : Int) == 1) := by
      unfold brokenB
      rw [Bool.eq_iff_iff]
      simp only [decide_eq_true_eq, beq_iff_eq]
      constructor
      · intro e; rw [e]; rfl
      · intro e; exact Prod.ext h (by omega)
    rw [h] at hd ⊢
    have HD := Lib.hid hd
    have HB := Lib.hid hb
    have hi0 : (0 : Int) ≤ (i : Int) := by omega
    have hi1 : (i : Int) ≤ (s.size : Int) := by omega
    clear hd hb hg h hc1 he
    generalize (Utf8.decode s i).2 = n at *
    go_enter Tryd.func70, Tryd.ntmps70
    go_wp2_with fail
    refine HD.out.mono ?_
    rintro e w1 ⟨rfl, hb1⟩
    have HB1 := Lib.hid hb1
    clear hb1
    go_wp2
    go_ret
    exact ⟨ret_bool HB.out.symm, HB1.out⟩
  · have hb : brokenB s i = false := by
      unfold brokenB
      rw [decide_eq_false_iff_not]
      intro e; exact h (by rw [e])
    have hq : ((((Utf8.decode s i).1 : Nat) : Int) != 65533) = true := by simp; omega
    have HB := Lib.hid hb
    clear hb h he
    generalize (Utf8.decode s i).1 = c at *
    go_enter Tryd.func70, Tryd.ntmps70
    go_wp2
    go_ret
    exact ⟨ret_bool HB.out.symm, Below.refl _ _⟩
end Go.Proofs.YtaoejgnfoecpfaaDoor
namespace Go.Proofs.YtaoejgnfoecpfaaDoor
set_option linter.unusedVariables false
set_option linter.unusedSimpArgs false
set_option linter.unusedSectionVars false
open Go.RowKit

def badN (s : ByteArray) (p : Nat) : Bool := decide ((Utf8.decode s p).1 < 32) || decide ((Utf8.decode s p).1 = 47) || decide ((Utf8.decode s p).1 = 127) || brokenB s p
/-- are all runes from a place on such as a name may have? -/
def nameFrom (s : ByteArray) : Nat → Nat → Bool
  | 0, _ => true
  | f + 1, p => if p < s.size then (if badN s p = true then false else nameFrom s f (p + (Utf8.decode s p).2)) else true
def nameOk (s : ByteArray) : Bool := decide (1 ≤ s.size) && decide (s ≠ ⟨#[46]⟩) && decide (s ≠ ⟨#[46, 46]⟩) && decide (s.size ≤ 60) && nameFrom s s.size 0
theorem nameFrom_end (s : ByteArray) (f p : Nat) (h : ¬ p < s.size) : nameFrom s f p = true := by
  cases f with
  | zero => rfl
  | succ f => simp [nameFrom, h]
theorem nameFrom_step (s : ByteArray) (f p : Nat) (h : p < s.size) (hf : s.size ≤ p + f) (hb : badN s p = false) : ∃ g, nameFrom s f p = nameFrom s g (p + (Utf8.decode s p).2) ∧ s.size ≤ p + (Utf8.decode s p).2 + g := by
  obtain ⟨g, rfl⟩ : ∃ g, f = g + 1 := ⟨f - 1, by omega⟩
  have := (decode_fits s p h).1
  exact ⟨g, by simp [nameFrom, h, hb], by omega⟩
theorem nameFrom_bad (s : ByteArray) (f p : Nat) (h : p < s.size) (hf : s.size ≤ p + f) (hb : badN s p = true) : nameFrom s f p = false := by
  obtain ⟨g, rfl⟩ : ∃ g, f = g + 1 := ⟨f - 1, by omega⟩
  simp [nameFrom, h, hb]
theorem list_ne {s : ByteArray} {l : List UInt8} (h : s ≠ ⟨l.toArray⟩) : (s.toList == l) = false := by
  have : ¬ s.toList = l := fun e => h (by
    rw [ba_toList] at e
    exact ByteArray.ext (by rw [← e]))
  simpa using this
theorem toList_nil {s : ByteArray} (h : 1 ≤ s.size) : s.toList.isEmpty = false := by
  rw [toList_isEmpty]
  exact decide_eq_false (by omega)
theorem dot_cases (s : ByteArray) : s.size = 0 ∨ s = ⟨#[46]⟩ ∨ s = ⟨#[46, 46]⟩ ∨ (1 ≤ s.size ∧ s ≠ ⟨#[46]⟩ ∧ s ≠ ⟨#[46, 46]⟩) := by
  by_cases h0 : s.size = 0
  · exact Or.inl h0
  · by_cases h1 : s = ⟨#[46]⟩
    · exact Or.inr (Or.inl h1)
    · by_cases h2 : s = ⟨#[46, 46]⟩
      · exact Or.inr (Or.inr (Or.inl h2))
      · exact Or.inr (Or.inr (Or.inr ⟨by omega, h1, h2⟩))
theorem size0 {s : ByteArray} (h : s.size = 0) : s = ⟨#[]⟩ := by
  apply ByteArray.ext
  exact Array.eq_empty_of_size_eq_zero h

set_option maxRecDepth 100000 in
set_option maxHeartbeats 3200000 in
theorem pname_any (s : ByteArray) (w : World) (he : Env w) (hs : s.size ≤ 1099511627776) :
    Calls Tryd.prog 63 #[.string s] w fun e w' => e = .returned (.bool (nameOk s)) ∧ Below w.heap.size w w' := by
  have HE := Lib.hid fun W (hb : Below w.heap.size w W) => he.below hb
  clear he
  rcases dot_cases s with h | h | h | ⟨h0, h1, h2⟩
  · have := size0 h
    subst this
    have HN := Lib.hid (show nameOk ⟨#[]⟩ = false by decide +kernel)
    go_enter Tryd.func63, Tryd.ntmps63
    go_wp2
    go_ret
    exact ⟨ret_bool HN.out.symm, Below.refl _ _⟩
  · subst h
    have HN := Lib.hid (show nameOk ⟨#[46]⟩ = false by decide +kernel)
    go_enter Tryd.func63, Tryd.ntmps63
    go_wp2
    go_ret
    exact ⟨ret_bool HN.out.symm, Below.refl _ _⟩
  · subst h
    have HN := Lib.hid (show nameOk ⟨#[46, 46]⟩ = false by decide +kernel)
    go_enter Tryd.func63, Tryd.ntmps63
    go_wp2
    go_ret
    exact ⟨ret_bool HN.out.symm, Below.refl _ _⟩
  · have hq0 := toList_nil h0
    have hq1 := list_ne (l := [46]) h1
    have hq2 := list_ne (l := [46, 46]) h2
    have e1 : nameOk s = (decide (s.size ≤ 60) && nameFrom s s.size 0) := by
      unfold nameOk
      rw [decide_eq_true h0, decide_eq_true h1, decide_eq_true h2]; simp
    have H12 := Lib.hid (And.intro h1 h2)
    clear h1 h2
    by_cases hz : s.size ≤ 60
    · rw [decide_eq_true hz, Bool.true_and] at e1
      have E1 := Lib.hid e1
      clear e1
      go_enter Tryd.func63, Tryd.ntmps63
      go_wp2
      go_loopw [3] (fun _ wr => ∃ (p f : Nat), wr.heap[w.heap.size]? = some (.stringIter s p) ∧ Below w.heap.size w wr ∧ nameFrom s f p = nameFrom s s.size 0 ∧ s.size ≤ p + f) (fun _ wr => s.size - wr.iterPos w.heap.size)
      case atStart => exact ⟨0, s.size, World.iter_heap w s 0, (Below.refl _ w).alloc (Nat.le_refl _) _, rfl, by omega⟩
      case round =>
        obtain ⟨p, f, hit, hb, hn, hf⟩ := hrel
        have hpos : wr.iterPos w.heap.size = p := by unfold World.iterPos; rw [hit]
        have HPOS := Lib.hid hpos
        have HIT := Lib.hid hit
        have HN := Lib.hid hn
        clear hn hpos
        by_cases hp : p < s.size
        · have hnx : ∀ ty, (Instr.next (.pointer (some ⟨w.heap.size, 0, none⟩)) true ty).run Tryd.prog wr = _ := fun ty => Lib.run_next_any_at wr w.heap.size s p ty HIT.out hp
          have hfit := decode_fits s p hp
          have HW1 := Lib.hid (Lib.iterAt_heap wr w.heap.size s p (p + (Utf8.decode s p).2) hit)
          have HB1 := Lib.hid (Lib.below_iterAt hb (Nat.le_refl _) s (p + (Utf8.decode s p).2))
          have HBR := Lib.hid fun W (h : Env W) => broken_any s p W h hs hp
          have hbad := nameFrom_bad s f p hp hf
          have hstep := nameFrom_step s f p hp hf
          have hbN : badN s p = (decide ((Utf8.decode s p).1 < 32) || decide ((Utf8.decode s p).1 = 47) || decide ((Utf8.decode s p).1 = 127) || brokenB s p) := rfl
          have HBAD := Lib.hid hbad
          have HSTEP := Lib.hid hstep
          have HBN := Lib.hid hbN
          clear hbad hstep hbN hit hb
          obtain ⟨f1, f2, f3, f4⟩ := hfit
          generalize (Utf8.decode s p).1 = c at *
          generalize (Utf8.decode s p).2 = n at *
          have HE2 := Lib.hid (HE.out _ HB1.out)
          generalize hW2 : wr.iterAt w.heap.size s (p + n) = W2 at *
          have HW2 := Lib.hid hW2
          clear hW2
          rcases (by omega : (c : Int) < 32 ∨ ((32 : Int) ≤ (c : Int) ∧ c = 47) ∨ ((32 : Int) ≤ (c : Int) ∧ c ≠ 47 ∧ c = 127) ∨ ((32 : Int) ≤ (c : Int) ∧ c ≠ 47 ∧ c ≠ 127)) with g | ⟨g1, g2⟩ | ⟨g1, g2, g3⟩ | ⟨g1, g2, g3⟩
          · have HF := Lib.hid (HBAD.out (by rw [HBN.out, decide_eq_true (show c < 32 by omega)]; rfl))
            go_wp2
            go_ret
            exact ⟨ret_bool (by rw [E1.out, ← HN.out, HF.out]), HB1.out⟩
          · have HF := Lib.hid (HBAD.out (by rw [HBN.out, decide_eq_true g2]; simp))
            subst g2
            go_wp2
            go_ret
            exact ⟨ret_bool (by rw [E1.out, ← HN.out, HF.out]), HB1.out⟩
          · have HF := Lib.hid (HBAD.out (by rw [HBN.out, decide_eq_true g3]; simp))
            subst g3
            go_wp2
            go_ret
            exact ⟨ret_bool (by rw [E1.out, ← HN.out, HF.out]), HB1.out⟩
          · have q1 : ((c : Int) == 47) = false := by simp; omega
            have q2 : ((c : Int) == 127) = false := by simp; omega
            have HBB := Lib.hid (show badN s p = brokenB s p by rw [HBN.out, decide_eq_false (show ¬ c < 32 by omega), decide_eq_false g2, decide_eq_false g3]; rfl)
            clear g2 g3
            go_wp2_with fail
            refine (HBR.out _ HE2.out).mono ?_
            rintro e w4 ⟨rfl, hb4⟩
            have HB4 := Lib.hid hb4
            clear hb4 HBR
            cases hbr : brokenB s p with
            | true =>
              have HF := Lib.hid (HBAD.out (by rw [HBB.out, hbr]))
              clear hbr
              go_wp2
              go_ret
              exact ⟨ret_bool (by rw [E1.out, ← HN.out, HF.out]), HB1.out.trans (HB4.out.mono HB1.out.size)⟩
            | false =>
              obtain ⟨g, e2, e3⟩ := HSTEP.out (by rw [HBB.out, hbr])
              have HG := Lib.hid e2
              have HIT4 := Lib.hid ((HB4.out.block w.heap.size (Array.getElem?_eq_some_iff.1 HW1.out).1).trans HW1.out)
              clear hbr e2
              go_wp2
              go_roundw
              case rel => exact ⟨p + n, g, HIT4.out, HB1.out.trans (HB4.out.mono HB1.out.size), HG.out.symm.trans HN.out, e3⟩
              case measure =>
                have : w4.iterPos w.heap.size = p + n := by unfold World.iterPos; rw [HIT4.out]
                rw [this, HPOS.out]; omega
        · have hnx : ∀ ty, (Instr.next (.pointer (some ⟨w.heap.size, 0, none⟩)) true ty).run Tryd.prog wr = _ := fun ty => Lib.run_next_end_at wr w.heap.size s p ty HIT.out hp
          have HF := Lib.hid (nameFrom_end s f p hp)
          have HB := Lib.hid hb
          clear hb hit
          go_wp2
          go_ret
          exact ⟨ret_bool (by rw [E1.out, ← HN.out, HF.out]), HB.out⟩
    · rw [decide_eq_false hz, Bool.false_and] at e1
      have E1 := Lib.hid e1
      clear e1
      go_enter Tryd.func63, Tryd.ntmps63
      go_wp2
      go_ret
      exact ⟨ret_bool E1.out.symm, Below.refl _ _⟩
end Go.Proofs.YtaoejgnfoecpfaaDoor
namespace Go.Proofs.YtaoejgnfoecpfaaDoor
set_option linter.unusedVariables false
set_option linter.unusedSimpArgs false
set_option linter.unusedSectionVars false
open Go.RowKit Go.Shelf
attribute [local go_sem] Oper.semAt_some

def slash : ByteArray := ⟨#[47]⟩
/-- are all parts names? -/
def allFrom : Nat → ByteArray → Bool
  | 0, r => nameOk r
  | f + 1, r => if Lib.indexB r slash = -1 then nameOk r else nameOk (r.extract 0 (Lib.indexB r slash).toNat) && allFrom f (r.extract ((Lib.indexB r slash).toNat + 1) r.size)
def isPath (s : ByteArray) : Bool := decide (s.size ≤ 200) && decide (Lib.countB s slash < 8) && allFrom s.size s
theorem allFrom_last (f : Nat) (r : ByteArray) (h : Lib.indexB r slash = -1) : allFrom f r = nameOk r := by
  cases f with
  | zero => rfl
  | succ f => simp only [allFrom]; rw [if_pos h]
theorem allFrom_cut (f : Nat) (r : ByteArray) (i : Nat) (h : Lib.indexB r slash = i) (hf : r.size ≤ f) (hi : i + 1 ≤ r.size) : ∃ g, allFrom f r = (nameOk (r.extract 0 i) && allFrom g (r.extract (i + 1) r.size)) ∧ (r.extract (i + 1) r.size).size ≤ g := by
  obtain ⟨g, rfl⟩ : ∃ g, f = g + 1 := ⟨f - 1, by omega⟩
  refine ⟨g, ?_, by rw [ByteArray.size_extract]; omega⟩
  simp only [allFrom]
  rw [if_neg (by omega), h]
  rfl

/-- the record of a loop that is ranged over a function -/
def recOf (a : Act) (ps : Array Tmp) (assign body : Code) (fn D : Nat) (st : LoopState) (pe : Option Code) : Loop := { state := st, pending := pe, fn := fn, tmps := a.tmps, params := ps, assign := assign, body := body, defers := D }
/-- the world in which the iterator begins -/
def begun (a : Act) (ps : Array Tmp) (assign body : Code) (fn : Nat) (w : World) : World := (w.alloc (.deferred (some []))).alloc (.loop (recOf a ps assign body fn w.heap.size .ready none))

theorem range_open {P : Program} {n : Nat} {g : Operand} {ps : Array Tmp} {assign body : Code} {Q : Exit → Act → World → Prop} {a : Act} {w : World} {gf : Nat} {lb : Array Value}
    (hg : a.eval g = .func (.func gf) #[] lb) (eg : ∀ args w, (callFunc gf args).run P w = .ok (.enter gf args) w)
    (h : ∀ fn, CallsIn Fence.wide (n - 1) P gf (#[.func (.yield (w.heap.size + 1)) #[] #[]] ++ lb) (begun a ps assign body fn w) (rangePost Fence.wide n P (w.heap.size + 1) Q { a with defers := [{ target := .collected w.heap.size, args := #[] }] ++ a.defers })) :
    (Code.rangeFunc g ps assign body).wpIn Fence.wide n P Q a w := by
  refine wpIn_rangeFunc fun fn hfn => ?_
  refine ⟨w.heap.size + 1, _, begun a ps assign body fn w, { target := .fn (.func gf) lb, args := #[.func (.yield (w.heap.size + 1)) #[] #[]] }, begun a ps assign body fn w, gf, _, begun a ps assign body fn w, run_enterLoop_outer _ _ _ _ _, ?_, fun _ _ => trivial, ?_, ?_, h fn⟩
  · simp only [resolve, hg]
    simp [go_sem]
  · simp [invoke, go_sem, eg]
  · intro hd; exact absurd hd (by simp [Fence.wide])
/-- what the iterator reads between two rounds -/
structure Feed (bs b bz : Nat) (r : ByteArray) (W : World) : Prop where
  len : r.size ≤ 4000000000
  max : ∃ m, W.cell? ⟨0, 0, none⟩ = some (.int .i64 m)
  sep : W.cell? ⟨bs, 0, none⟩ = some (.string slash)
  rest : W.cell? ⟨b, 0, none⟩ = some (.string r)
  free : W.frozen? ⟨b, 0, none⟩ = false
  save : W.cell? ⟨bz, 0, none⟩ = some (.int .i64 0)

/-- the rest, as it lies in the box -/
def restOf (b : Nat) (W : World) : ByteArray := match W.cell? ⟨b, 0, none⟩ with | some (.string r) => r | _ => ⟨#[]⟩

set_option maxRecDepth 100000 in
set_option maxHeartbeats 3200000 in
theorem parts_in (n : Nat) (hn : 1 ≤ n) (l bs b bz : Nat) (J : ByteArray → World → Prop) (Jx : World → Prop)
    (hJ : ∀ r W, J r W → Feed bs b bz r W)
    (hY : ∀ r W, J r W → Lib.indexB r slash = -1 → YieldAt Fence.wide (n - 1) Tryd.prog l #[.string r] W fun e W' => (e = .returned (.bool true) ∧ J r W' ∧ nameOk r = true) ∨ (e = .returned (.bool false) ∧ Jx W'))
    (hZ : ∀ r W (i : Nat), J r W → Lib.indexB r slash = i → i + 1 ≤ r.size → YieldAt Fence.wide (n - 1) Tryd.prog l #[.string (r.extract 0 i)] W fun e W' => (e = .returned (.bool true) ∧ J r W' ∧ nameOk (r.extract 0 i) = true) ∨ (e = .returned (.bool false) ∧ Jx W'))
    (hS : ∀ r W (i : Nat), J r W → Lib.indexB r slash = i → i + 1 ≤ r.size → nameOk (r.extract 0 i) = true → J (r.extract (i + 1) r.size) (W.setCell ⟨b, 0, none⟩ (.string (r.extract (i + 1) r.size))))
    (s : ByteArray) (W : World) (h0 : J s W) :
    CallsIn Fence.wide n Tryd.prog 118 #[.func (.yield l) #[] #[], .pointer (some ⟨bs, 0, none⟩), .pointer (some ⟨b, 0, none⟩), .pointer (some ⟨bz, 0, none⟩)] W fun e W' => (∃ v, e = .returned v) ∧
      ((∃ r, J r W' ∧ Lib.indexB r slash = -1 ∧ nameOk r = true) ∨ Jx W') := by
  refine callsIn_of_wp Tryd.func118 rfl trivial ?_ rfl
  simp only [Tryd.ntmps118, List.size_toArray, List.length_cons, List.length_nil, Nat.reduceAdd, Nat.reduceSub, Array.replicate_succ, Array.replicate_zero, List.push_toArray, List.append_toArray, List.nil_append, List.cons_append]
  have hc := (hJ s W h0).sep
  unfold slash at hc
  gi_wp2
  gi_loopw [7] (fun _ wr => ∃ r, J r wr) (fun _ wr => (restOf b wr).size)
  case atStart => exact ⟨s, h0⟩
  case round =>
    obtain ⟨r, hj⟩ := hrel
    obtain ⟨hlen, ⟨m, hm⟩, hsep, hrest, hfree, hsave⟩ := hJ r wr hj
    have hI := Tryd.strings_Index r slash m wr (by omega) hm
    have HR0 := Lib.hid (show restOf b wr = r by unfold restOf; rw [hrest])
    rcases Lib.indexB_cases r slash with hi | ⟨i, hi, hi2⟩
    · obtain ⟨fn, tmps, assign, body, hy, hR⟩ := hY r wr hj hi
      rw [show Lib.index r.data.toList slash.data.toList = -1 from hi] at hI
      unfold slash at hsep hI
      have HI := Lib.hid hI
      have HH := Lib.hid hi
      have HJ := Lib.hid hj
      have HC := Lib.hid hR
      clear hI hi hR hj
      gi_wp2
      refine ⟨trivial, (callsIn_wide.2 HI.out).mono ?_⟩
      rintro e w' ⟨rfl, rfl⟩
      gi_wp2
      refine HC.out.mono ?_
      rintro e W3 (⟨rfl, hJ3, hok⟩ | ⟨rfl, hx⟩)
      · have HJ3 := Lib.hid hJ3
        have HO := Lib.hid hok
        clear hJ3 hok
        gi_wp2
        go_end0
        exact ⟨⟨_, rfl⟩, .inl ⟨r, HJ3.out, HH.out, HO.out⟩⟩
      · have HX := Lib.hid hx
        clear hx
        gi_wp2
        go_end0
        exact ⟨⟨_, rfl⟩, .inr HX.out⟩
    · have hi3 : i + 1 ≤ r.size := hi2
      obtain ⟨fn, tmps, assign, body, hy, hR⟩ := hZ r wr i hj hi hi3
      rw [show Lib.index r.data.toList slash.data.toList = (i : Int) from hi] at hI
      unfold slash at hsep hI
      have HI := Lib.hid hI
      have HH := Lib.hid hi
      have HJ := Lib.hid hj
      have HC := Lib.hid hR
      have hi0 : (0 : Int) ≤ (i : Int) := by omega
      have hi1 : (i : Int) ≤ (r.size : Int) := by omega
      have hi4 : (i : Int) + 1 ≤ (r.size : Int) := by omega
      clear hI hi hR hj hi2
      gi_wp2
      refine ⟨trivial, (callsIn_wide.2 HI.out).mono ?_⟩
      rintro e w' ⟨rfl, rfl⟩
      gi_wp2
      refine HC.out.mono ?_
      rintro e W3 (⟨rfl, hJ3, hok⟩ | ⟨rfl, hx⟩)
      · obtain ⟨_, _, hsep3, hrest3, hfree3, hsave3⟩ := hJ r W3 hJ3
        unfold slash at hsep3
        have HJ4 := Lib.hid (hS r W3 i hJ3 HH.out hi3 hok)
        have HZ := Lib.hid (show (r.extract (i + 1) r.size).size = r.size - (i + 1) by rw [ByteArray.size_extract]; omega)
        clear hJ3 hok
        gi_wp2
        go_roundw
        case rel => exact ⟨_, HJ4.out⟩
        case measure =>
          have h1 := (hJ _ _ HJ4.out).rest
          have h2 : restOf b (W3.setCell ⟨b, 0, none⟩ (.string (r.extract (i + 1) r.size))) = r.extract (i + 1) r.size := by unfold restOf; rw [h1]
          rw [h2, HR0.out, HZ.out]; omega
      · have HX := Lib.hid hx
        clear hx
        gi_wp2
        refine bodyPost_ret (results_none rfl _ _ _) rfl ?_
        exact ⟨⟨_, rfl⟩, .inr HX.out⟩
end Go.Proofs.YtaoejgnfoecpfaaDoor
namespace Go.Proofs.YtaoejgnfoecpfaaDoor
set_option linter.unusedVariables false
set_option linter.unusedSimpArgs false
set_option linter.unusedSectionVars false
open Go.RowKit

/-- does a stand before b? -/
def lessS (a b : ByteArray) : Bool := Op.bytesLess a.toList b.toList
def sCmp (a b : ByteArray) : Int := if lessS a b = true then -1 else if a.toList = b.toList then 0 else 1
def cmpL : List ByteArray → List ByteArray → Int
  | [], [] => 0
  | [], _ :: _ => -1
  | _ :: _, [] => 1
  | x :: xs, y :: ys => if sCmp x y = 0 then cmpL xs ys else sCmp x y
/-- texts in a row of cells -/
def StrRow (W : World) (b : Nat) (xs : List ByteArray) : Prop := ∀ (j : Nat) (u : ByteArray), xs[j]? = some u → W.cell? ⟨b, j, none⟩ = some (.string u)

set_option maxRecDepth 100000 in
set_option maxHeartbeats 400000 in
theorem nan_any (a : ByteArray) (w : World) : Calls Tryd.prog 147 #[.string a] w fun e w' => e = .returned (.bool false) ∧ w = w' := by
  go_enter Tryd.func147, Tryd.ntmps147
  go_wp2
  go_ret
  exact ⟨ret_bool (by simp), rfl⟩
set_option maxRecDepth 100000 in
set_option maxHeartbeats 400000 in
theorem cmp_any (a b : ByteArray) (w : World) : Calls Tryd.prog 127 #[.string a, .string b] w fun e w' => e = .returned (.int .i64 (sCmp a b)) ∧ w = w' := by
  go_enter Tryd.func127, Tryd.ntmps127
  go_wp2_with fail
  refine (nan_any a w).mono ?_
  rintro e w' ⟨rfl, rfl⟩
  go_wp2_with fail
  refine (nan_any b _).mono ?_
  rintro e w' ⟨rfl, rfl⟩
  cases h1 : Op.bytesLess a.toList b.toList with
  | true =>
    have HS := Lib.hid (show sCmp a b = -1 by unfold sCmp lessS; rw [if_pos h1])
    go_wp2
    go_ret
    exact ⟨ret_int HS.out.symm, rfl⟩
  | false =>
    cases h2 : a.toList == b.toList with
    | true =>
      have HS := Lib.hid (show sCmp a b = 0 by unfold sCmp lessS; rw [if_neg (by rw [h1]; simp), if_pos (eq_of_beq h2)])
      go_wp2
      go_ret
      exact ⟨ret_int HS.out.symm, rfl⟩
    | false =>
      have HS := Lib.hid (show sCmp a b = 1 by unfold sCmp lessS; rw [if_neg (by rw [h1]; simp), if_neg (fun e => by rw [e] at h2; simp at h2)])
      go_wp2
      go_ret
      exact ⟨ret_int HS.out.symm, rfl⟩
theorem sCmp_range (a b : ByteArray) : sCmp a b = -1 ∨ sCmp a b = 0 ∨ sCmp a b = 1 := by
  unfold sCmp
  split
  · exact Or.inl rfl
  · split
    · exact Or.inr (Or.inl rfl)
    · exact Or.inr (Or.inr rfl)
theorem drop_some {α : Type} {l : List α} {k : Nat} (h : k < l.length) : l.drop k = l[k] :: l.drop (k + 1) := List.drop_eq_getElem_cons h

set_option maxRecDepth 100000 in
set_option maxHeartbeats 1600000 in
theorem slcmp_any (xs ys : List ByteArray) (bx by' cx cy : Nat) (w : World) (hx : StrRow w bx xs) (hy : StrRow w by' ys) (hlx : xs.length ≤ 1099511627776) (_hly : ys.length ≤ 1099511627776) :
    Calls Tryd.prog 115 #[.slice (some ⟨bx, 0, none⟩) xs.length cx, .slice (some ⟨by', 0, none⟩) ys.length cy] w fun e w' => e = .returned (.int .i64 (cmpL xs ys)) ∧ w = w' := by
  have HX := Lib.hid hx
  have HY := Lib.hid hy
  clear hx hy
  go_enter Tryd.func115, Tryd.ntmps115
  go_wp2
  go_loop [11] (fun t => ∃ k : Nat, t = .int .i64 (k : Nat) ∧ k ≤ xs.length ∧ k ≤ ys.length ∧ cmpL (xs.drop k) (ys.drop k) = cmpL xs ys) (fun t => xs.length - (intOf t).toNat)
  case atStart => exact ⟨0, rfl, Nat.zero_le _, Nat.zero_le _, rfl⟩
  case round =>
    obtain ⟨k, rfl, hkx, hky, hn⟩ := hrel
    have HN := Lib.hid hn
    clear hn
    by_cases h1 : k < xs.length
    · have hcx := HX.out k xs[k] (List.getElem?_eq_getElem h1)
      have HDX := Lib.hid (drop_some h1)
      generalize xs[k] = x at *
      by_cases h2 : k < ys.length
      · have hcy := HY.out k ys[k] (List.getElem?_eq_getElem h2)
        have HDY := Lib.hid (drop_some h2)
        generalize ys[k] = y at *
        have HC := Lib.hid (cmp_any x y w)
        have hr := sCmp_range x y
        have HD := Lib.hid (show cmpL (x :: xs.drop (k + 1)) (y :: ys.drop (k + 1)) = if sCmp x y = 0 then cmpL (xs.drop (k + 1)) (ys.drop (k + 1)) else sCmp x y from rfl)
        generalize sCmp x y = q at *
        go_wp2_with fail
        refine HC.out.mono ?_
        rintro e w4 ⟨rfl, rfl⟩
        by_cases hq : q = 0
        · have HQ := Lib.hid hq
          go_wp2
          go_round
          case rel => exact ⟨k + 1, by go_num, by omega, by omega, by rw [← HN.out, HDX.out, HDY.out, HD.out, if_pos HQ.out]⟩
          case measure => simp [intOf]; omega
        · have HQ := Lib.hid hq
          have hq2 : (q != 0) = true := by simp; exact hq
          clear hq hr
          go_wp2
          go_ret
          exact ⟨ret_int (by rw [← HN.out, HDX.out, HDY.out, HD.out, if_neg HQ.out]), rfl⟩
      · have HF := Lib.hid (show ys.drop k = [] from List.drop_of_length_le (by omega))
        go_wp2
        go_ret
        exact ⟨ret_int (by rw [← HN.out, HDX.out, HF.out]; rfl), rfl⟩
    · have HF := Lib.hid (show xs.drop k = [] from List.drop_of_length_le (by omega))
      have hke : k = xs.length := by omega
      by_cases h2 : k < ys.length
      · have HDY := Lib.hid (drop_some h2)
        generalize ys[k] = y at *
        go_wp2
        go_ret
        exact ⟨ret_int (by rw [← HN.out, HF.out, HDY.out]; rfl), rfl⟩
      · have HG := Lib.hid (show ys.drop k = [] from List.drop_of_length_le (by omega))
        go_wp2
        go_ret
        exact ⟨ret_int (by rw [← HN.out, HF.out, HG.out]; rfl), rfl⟩
end Go.Proofs.YtaoejgnfoecpfaaDoor
namespace Go.Proofs.YtaoejgnfoecpfaaDoor
set_option linter.unusedVariables false
set_option linter.unusedSimpArgs false
set_option linter.unusedSectionVars false
open Go Go.RowKit Go.Shelf Go.Lib

def listed : List (String × DataW Unit) := [("unicode/utf8.acceptRanges", Rows.laid_unicode_utf8_acceptRanges), ("unicode/utf8.first", Rows.laid_unicode_utf8_first)]
theorem first_eq : Rows.laid_unicode_utf8_first = Lib.firstData := by kernel_rfl
theorem accept_eq : Rows.laid_unicode_utf8_acceptRanges = Lib.acceptData := by kernel_rfl
theorem env_of {W : World} (hL : laidMetH Tryd.prog listed W) (hsh : W.ShapedOpen Tryd.prog) : Env W := by
  rw [MakeChecks.laidMetH_plain _ _ _ (by kernel_rfl)] at hL
  have h1 := Lib.laidMet.reads hL (.head _)
  have h2 := Lib.laidMet.reads hL (.tail _ (.head _))
  rw [accept_eq] at h1
  rw [first_eq] at h2
  refine ⟨cell_of_shapedOpen_int (zero := #[.int .i64 0]) (t := 3) hsh (by decide +kernel) (by kernel_rfl) rfl (by kernel_rfl) (by kernel_rfl) Tryd.underlying3, ?_⟩
  exact utf8Tabs_of_reads { Tryd.lays197 with } ⟨by kernel_rfl, by kernel_rfl, by kernel_rfl, by kernel_rfl, by kernel_rfl, by kernel_rfl, by kernel_rfl⟩ h2 h1

variable {H : Type} {enc : TypeId × Value → H}
/-- a row's contract out of a walk that is told of the listed variables and of the world's shape -/
theorem handed_listed {C : Checked} {os : Os} {f : FuncId} {fn : Func} {s : ChangeSpec} {conds : List PathCond} {apart fresh handsOn again : Bool} {laid : List (String × DataW Unit)}
    (own : ownKnob C.prog.godebug = none) (started : os.Started) (noInit : C.prog.inits.idxOf? f = none) (hfn : C.prog.funcs[f]? = some fn)
    (witness : ∃ (w : World) (tape : Tape) (i : Input), w.os = os ∧ (w.forCall tape i).Shaped C.prog ∧ i.vars = [] ∧ Input.okWide C.prog (w.forCall tape i) .any w.heap.size f i ∧
      ((s.pre enc C.prog fn conds apart (w.forCall tape i).memory i.args ∧ laidMetH C.prog laid (w.forCall tape i).memory) ∧ sizedMet enc C.prog fn (OpenSpec.ofChange s) apart (w.forCall tape i).memory i.args) ∧ ({} : Assume).holds C.prog (lone (Frame.enter C.prog f i.args .normal) [] (w.forCall tape i)))
    (walk : ∀ (W : World) (base : Nat) (args : Array Value) (ds gs : List (DataW H)) (before : List MemPlace),
      (∀ (j : Nat) t v, fn.params[j]? = some t → args[j]? = some v → Value.okWide C.prog W .any base t v) →
      DataW.Whole enc C.prog fn.params.toList s.vars apart W args.toList ds gs before →
      laidMetH C.prog laid W → W.ShapedOpen C.prog →
      Calls C.prog f args W fun e W' => ∃ v, e = .returned v ∧ s.post enc C.prog fn apart fresh handsOn again W args v W') :
    ReturnsInHanded {} C os f .any (fun w args => (s.pre enc C.prog fn conds apart w args ∧ laidMetH C.prog laid w) ∧ sizedMet enc C.prog fn (OpenSpec.ofChange s) apart w args) (s.post enc C.prog fn apart fresh handsOn again) := by
  refine returnsInHanded_of_calls own started noInit witness fun w tape i _ hsh _ hok hpre _ => ?_
  obtain ⟨_, _, _, fn', hfn', _, _, _, _, hval⟩ := hok
  obtain rfl : fn' = fn := Option.some.inj (hfn'.symm.trans hfn)
  obtain ⟨⟨⟨ds, gs, before, hw, _⟩, hx⟩, _⟩ := hpre
  refine (walk (w.forCall tape i) w.heap.size i.args ds gs before hval (DataW.Whole.of_heap (by rfl) hw) (laidMetH.of_heap (by rfl) hx) hsh).mono ?_
  rintro e W' ⟨v, rfl, hp⟩
  exact ChangeSpec.post_blind hp
end Go.Proofs.YtaoejgnfoecpfaaDoor
