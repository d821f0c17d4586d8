/- The library's functions at this seat: laid by the kit's lay-shelf.mjs and lay-plain.mjs. Runes of a text: the model's decoding at a place; path's broken. Digits of names: the plain law. bits.value, bits.Unhex, digest.Is. Names: the program's, and the document's. From a card's premises to the library's variables; the wrap that keeps the world's shape and the listed variables. As XEnv's wrap, with the weights' bound. -/
import Derived.Shelf.Strings.Builder1
import Derived.Shelf.Strings.Builder2
import Derived.Shelf.Strings.OnBuilder
import Derived.Shelf.Small.Bits
import Derived.Shelf.Small.Strs
import Derived.Shelf.Small.Wraps
import Derived.Shelf.Strings.BuilderF
import Derived.Shelf.Strings.BuilderK
import Derived.Shelf.Strings.Builder2Cap
import Derived.Shelf.Strconv.Itoa0
import Derived.Shelf.Strings.Prefix
import Derived.Shelf.Unicode.Decode
import Derived.Shelf.Bits.Mul64
import Derived.Shelf.Unicode.DecodeSlow
import Derived.Shelf.Unicode.DecodeAny
import Derived.Shelf.Strings.BuilderCap
import Derived.Shelf.Slices.In.SortNone
import Derived.Ground.SlgmProg
import Derived.Shelf.SortM.Plain
import Derived.Test.YtpeepdkeicgkiaaGreatDoorProg
import Derived.Test.YtpeepdkeicgkiaaGreatDoorZo2
import Derived.Test.YtpeepdkeicgkiaaGreatDoorZo1
import Derived.Lib.OthersKept
import Derived.WalkSmall
import Derived.Test.YtpeepdkeicgkiaaGreatDoorRows
import Derived.Handed
import Derived.HandedShaped
import Derived.Shelf.Vars
import Derived.Lib.LaidU8
import Derived.MakeChecks
import Derived.Lay
import Derived.LaidMore
import Derived.Stop.Joined
import Derived.SizedLaws
namespace Go.Proofs.YtpeepdkeicgkiaaGreatDoor
set_option linter.unusedVariables false
set_option linter.unusedSimpArgs false
set_option linter.unusedSectionVars false
open Go.Shelf
def Tryz.lays156_ren : Go.Shelf.Ren := ⟨fun | 156 => 42 | 165 => 76 | 166 => 77 | 169 => 78 | 240 => 114 | 241 => 115 | 276 => 130 | 277 => 131 | n => n, fun | 31 => 30 | 9 => 9 | 3 => 3 | 4 => 4 | 0 => 0 | 20 => 20 | 72 => 123 | 76 => 126 | 70 => 121 | 37 => 76 | 75 => 125 | 127 => 166 | 164 => 181 | 5 => 5 | 80 => 128 | n => n, fun | n => n⟩
theorem Tryz.lays156 : Go.Proofs.Lays.n156 Tryz.prog Tryz.lays156_ren := {
  mixed := by kernel_rfl
  f156 := Tryz.func42.trans (congrArg some (by kernel_rfl))
  f165 := Tryz.func76.trans (congrArg some (by kernel_rfl))
  f166 := Tryz.func77.trans (congrArg some (by kernel_rfl))
  f169 := Tryz.func78.trans (congrArg some (by kernel_rfl))
  f240 := Tryz.func114.trans (congrArg some (by kernel_rfl))
  f241 := Tryz.func115.trans (congrArg some (by kernel_rfl))
  f276 := Tryz.func130.trans (congrArg some (by kernel_rfl))
  f277 := Tryz.func131.trans (congrArg some (by kernel_rfl))
  t0 := Tryz.underlying0
  a0 := Tryz.isAgg0
  z0 := Tryz.sizeOf0
  v0 := Tryz.zeroValue0
  t3 := Tryz.underlying3
  a3 := Tryz.isAgg3
  z3 := Tryz.sizeOf3
  v3 := Tryz.zeroValue3
  t4 := Tryz.underlying4
  a4 := Tryz.isAgg4
  z4 := Tryz.sizeOf4
  v4 := Tryz.zeroValue4
  t9 := Tryz.underlying9
  a9 := Tryz.isAgg9
  z9 := Tryz.sizeOf9
  v9 := Tryz.zeroValue9
  t20 := Tryz.underlying20
  a20 := Tryz.isAgg20
  z20 := Tryz.sizeOf20
  v20 := Tryz.zeroValue20
  t31 := Tryz.underlying30
  a31 := Tryz.isAgg30
  z31 := Tryz.sizeOf30
  v31 := Tryz.zeroValue30
  t37 := Tryz.underlying76
  a37 := Tryz.isAgg76
  z37 := Tryz.sizeOf76
  v37 := Tryz.zeroValue76
  t70 := Tryz.underlying121
  a70 := Tryz.isAgg121
  z70 := Tryz.sizeOf121
  v70 := Tryz.zeroValue121
  t72 := Tryz.underlying123
  a72 := Tryz.isAgg123
  z72 := Tryz.sizeOf123
  v72 := Tryz.zeroValue123
  t75 := Tryz.underlying125
  a75 := Tryz.isAgg125
  z75 := Tryz.sizeOf125
  v75 := Tryz.zeroValue125
  t76 := Tryz.underlying126
  a76 := Tryz.isAgg126
  z76 := Tryz.sizeOf126
  v76 := Tryz.zeroValue126
  t127 := Tryz.underlying166
  a127 := Tryz.isAgg166
  z127 := Tryz.sizeOf166
  v127 := Tryz.zeroValue166
  t164 := Tryz.underlying181
  a164 := Tryz.isAgg181
  z164 := Tryz.sizeOf181
  v164 := Tryz.zeroValue181 }
theorem Tryz.Builder_Extra_156 : Builder.Extra Tryz.prog Tryz.lays156_ren := {
  sizeBuilder := by kernel_rfl
  liesBuilder := by kernel_rfl
  t5 := Tryz.underlying5
  a5 := Tryz.isAgg5
  z5 := Tryz.sizeOf5
  v5 := Tryz.zeroValue5
  infoByte := by kernel_rfl
  cellsByte := by kernel_rfl
  sizeByte := by kernel_rfl
  neB5 := by decide }
open Go.RowKit in
/-- No element: the empty string; the world is as it was. (Whatever the slice's address and capacity: a nil slice too.) (LAID: no walk: one application.) -/
theorem Tryz.strings_Join_none (a : Option Addr) (c : Nat) (sep : ByteArray) (w : World) :
    Calls Tryz.prog 42 #[.slice a 0 c, .string sep] w fun e w' => e = .returned (.string ⟨#[]⟩) ∧ w' = w := Any.strings_Join_none Tryz.lays156 Tryz.Builder_Extra_156 a c sep w
open Go.RowKit in
/-- strings.Join: "Join concatenates the elements of its first argument to create a single string. The separator string sep is placed between elements in the resulting string.": HOWEVER MANY ELEMENTS. Below the heap's end the world is as it was. (LAID: no walk: one application.) -/
theorem Tryz.strings_Join (bk o c : Nat) (xs : List ByteArray) (sep : ByteArray) (w : World) (hcells : ∀ (j : Nat) x, xs[j]? = some x → w.cell? ⟨bk, o + j, none⟩ = some (.string x)) (hbk : bk < w.heap.size) (hN : xs.length ≤ 140737488355328) (hcap : xs.length ≤ c) (hlen : (Lib.join (xs.map (·.data.toList)) sep.data.toList).length ≤ 140737488355328) :
    Calls Tryz.prog 42 #[.slice (some ⟨bk, o, none⟩) xs.length c, .string sep] w fun e w' => e = .returned (.string ⟨(Lib.join (xs.map (·.data.toList)) sep.data.toList).toArray⟩) ∧ Below w.heap.size w w' := Any.strings_Join Tryz.lays156 Tryz.Builder_Extra_156 bk o c xs sep w hcells hbk hN hcap hlen
def Tryz.lays106_ren : Go.Shelf.Ren := ⟨fun | 106 => 70 | 213 => 109 | 265 => 126 | n => n, fun | 9 => 9 | 3 => 3 | n => n, fun | n => n⟩
theorem Tryz.lays106 : Go.Proofs.Lays.n106 Tryz.prog Tryz.lays106_ren := {
  mixed := by kernel_rfl
  f106 := Tryz.func70.trans (congrArg some (by kernel_rfl))
  f213 := Tryz.func109.trans (congrArg some (by kernel_rfl))
  f265 := Tryz.func126.trans (congrArg some (by kernel_rfl))
  t3 := Tryz.underlying3
  a3 := Tryz.isAgg3
  z3 := Tryz.sizeOf3
  v3 := Tryz.zeroValue3
  t9 := Tryz.underlying9
  a9 := Tryz.isAgg9
  z9 := Tryz.sizeOf9
  v9 := Tryz.zeroValue9 }
open Go.RowKit in
/-- strings.Compare: "Compare returns an integer comparing two strings lexicographically. The result will be 0 if a == b, -1 if a < b, and +1 if a > b.": IT RETURNS 'Lib.compareBytes a b'; the world is as it was. (LAID: no walk: one application.) -/
theorem Tryz.strings_Compare (a b : ByteArray) (w : World) :
    Calls Tryz.prog 70 #[.string a, .string b] w fun e w' => e = .returned (.int .i64 (Lib.compareBytes a.data.toList b.data.toList)) ∧ w' = w := Any.strings_Compare Tryz.lays106 a b w
def Tryz.lays103_ren : Go.Shelf.Ren := ⟨fun | 103 => 71 | 210 => 110 | 206 => 127 | n => n, fun | 9 => 9 | 4 => 4 | 24 => 115 | 3 => 3 | n => n, fun | n => n⟩
theorem Tryz.lays103 : Go.Proofs.Lays.n103 Tryz.prog Tryz.lays103_ren := {
  mixed := by kernel_rfl
  f103 := Tryz.func71.trans (congrArg some (by kernel_rfl))
  f206 := Tryz.func127.trans (congrArg some (by kernel_rfl))
  f210 := Tryz.func110.trans (congrArg some (by kernel_rfl))
  t3 := Tryz.underlying3
  a3 := Tryz.isAgg3
  z3 := Tryz.sizeOf3
  v3 := Tryz.zeroValue3
  t4 := Tryz.underlying4
  a4 := Tryz.isAgg4
  z4 := Tryz.sizeOf4
  v4 := Tryz.zeroValue4
  t9 := Tryz.underlying9
  a9 := Tryz.isAgg9
  z9 := Tryz.sizeOf9
  v9 := Tryz.zeroValue9
  t24 := Tryz.underlying115
  a24 := Tryz.isAgg115
  z24 := Tryz.sizeOf115
  v24 := Tryz.zeroValue115 }
open Go.RowKit in
/-- strings.CutPrefix: "CutPrefix returns s without the provided leading prefix string and reports whether it found the prefix. If s doesn't start with prefix, CutPrefix returns s, false. If prefix is the empty string, CutPrefix returns s, true.": IT RETURNS '(Lib.trimPrefix s p, Lib.hasPrefix s p)'; the world is as it was. (LAID: no walk: one application.) -/
theorem Tryz.strings_CutPrefix (s p : ByteArray) (w : World) :
    Calls Tryz.prog 71 #[.string s, .string p] w fun e w' => e = .returned (.tuple #[.string ⟨(Lib.trimPrefix s.data.toList p.data.toList).toArray⟩, .bool (Lib.hasPrefix s.data.toList p.data.toList)]) ∧ w' = w := Any.strings_CutPrefix Tryz.lays103 s p w
def Tryz.lays197_ren : Go.Shelf.Ren := ⟨fun | 197 => 128 | 260 => 144 | n => n, fun | 9 => 9 | 21 => 21 | 3 => 3 | 4 => 4 | 5 => 5 | 105 => 178 | 119 => 196 | 0 => 0 | 46 => 113 | 139 => 199 | 138 => 198 | n => n, fun | 3 => 1 | 4 => 2 | n => n⟩
theorem Tryz.lays197 : Go.Proofs.Lays.n197 Tryz.prog Tryz.lays197_ren := {
  mixed := by kernel_rfl
  f197 := Tryz.func128.trans (congrArg some (by kernel_rfl))
  f260 := Tryz.func144.trans (congrArg some (by kernel_rfl))
  t0 := Tryz.underlying0
  a0 := Tryz.isAgg0
  z0 := Tryz.sizeOf0
  v0 := Tryz.zeroValue0
  t3 := Tryz.underlying3
  a3 := Tryz.isAgg3
  z3 := Tryz.sizeOf3
  v3 := Tryz.zeroValue3
  t4 := Tryz.underlying4
  a4 := Tryz.isAgg4
  z4 := Tryz.sizeOf4
  v4 := Tryz.zeroValue4
  t5 := Tryz.underlying5
  a5 := Tryz.isAgg5
  z5 := Tryz.sizeOf5
  v5 := Tryz.zeroValue5
  t9 := Tryz.underlying9
  a9 := Tryz.isAgg9
  z9 := Tryz.sizeOf9
  v9 := Tryz.zeroValue9
  t21 := Tryz.underlying21
  a21 := Tryz.isAgg21
  z21 := Tryz.sizeOf21
  v21 := Tryz.zeroValue21
  t46 := Tryz.underlying113
  a46 := Tryz.isAgg113
  z46 := Tryz.sizeOf113
  v46 := Tryz.zeroValue113
  t105 := Tryz.underlying178
  a105 := Tryz.isAgg178
  z105 := Tryz.sizeOf178
  v105 := Tryz.zeroValue178
  t119 := Tryz.underlying196
  a119 := Tryz.isAgg196
  z119 := Tryz.sizeOf196
  t138 := Tryz.underlying198
  a138 := Tryz.isAgg198
  z138 := Tryz.sizeOf198
  v138 := Tryz.zeroValue198
  t139 := Tryz.underlying199
  a139 := Tryz.isAgg199
  z139 := Tryz.sizeOf199
  v139 := Tryz.zeroValue199
  g3 := by kernel_rfl
  g4 := by kernel_rfl }
def Tryz.lays264_ren : Go.Shelf.Ren := ⟨fun | 264 => 141 | n => n, fun | 53 => 86 | 46 => 113 | n => n, fun | n => n⟩
theorem Tryz.lays264 : Go.Proofs.Lays.n264 Tryz.prog Tryz.lays264_ren := {
  mixed := by kernel_rfl
  f264 := Tryz.func141.trans (congrArg some (by kernel_rfl))
  t46 := Tryz.underlying113
  a46 := Tryz.isAgg113
  z46 := Tryz.sizeOf113
  v46 := Tryz.zeroValue113
  t53 := Tryz.underlying86
  a53 := Tryz.isAgg86
  z53 := Tryz.sizeOf86
  v53 := Tryz.zeroValue86 }
open Go.RowKit Go.Lib in
theorem Tryz.bits_Mul64 (x y : Nat) (hx : x < 18446744073709551616) (hy : y < 18446744073709551616) (w : World) :
    Calls Tryz.prog 141 #[.int .u64 x, .int .u64 y] w fun e w' => e = .returned (.tuple #[.int .u64 ((x * y / 18446744073709551616 : Nat) : Int), .int .u64 ((x * y % 18446744073709551616 : Nat) : Int)]) ∧ w' = w := Any.bits_Mul64 Tryz.lays264 x y hx hy w
open Go.RowKit Go.Lib in
/-- **unicode/utf8.DecodeRuneInString AT EVERY STRING.** (LAID: no walk: one application.) -/
theorem Tryz.utf8_DecodeRuneInString (s : ByteArray) (w : World) (hT : Lib.Utf8Tabs 1 2 w) :
    Calls Tryz.prog 128 #[.string s] w fun e w' => e = .returned (.tuple #[.int .i32 (Lib.decodeGo s).1, .int .i64 (Lib.decodeGo s).2]) ∧ Below w.heap.size w w' := Any.utf8_DecodeRuneInString Tryz.lays197 s w hT
end Go.Proofs.YtpeepdkeicgkiaaGreatDoor
namespace Go.Proofs.YtpeepdkeicgkiaaGreatDoor
set_option linter.unusedVariables false
set_option linter.unusedSimpArgs false
set_option linter.unusedSectionVars false
open Go.RowKit

theorem cont_eq' (s : ByteArray) (i k : Nat) : (decide (i + k < s.size) && (bAt s (i + k) / 64 == 2)) = true ↔ contB s (i + k) := by
  unfold contB
  have := bAt_lt s (i + k)
  simp only [Bool.and_eq_true, decide_eq_true_eq, beq_iff_eq]
  omega
/-- the model's decoding, by a text's bytes from a place on -/
def decF (b : Nat → Nat) (c : Nat → Bool) : Nat × Nat :=
  if b 0 < 128 then (b 0, 1)
  else if (b 0 / 32 == 6 && c 1) = true then (if 128 ≤ (b 0 % 32) * 64 + b 1 % 64 then ((b 0 % 32) * 64 + b 1 % 64, 2) else (65533, 1))
  else if (b 0 / 16 == 14 && c 1 && c 2) = true then (if (decide (2048 ≤ (b 0 % 16) * 4096 + (b 1 % 64) * 64 + b 2 % 64) && Utf8.valid ((b 0 % 16) * 4096 + (b 1 % 64) * 64 + b 2 % 64 : Nat)) = true then ((b 0 % 16) * 4096 + (b 1 % 64) * 64 + b 2 % 64, 3) else (65533, 1))
  else if (b 0 / 8 == 30 && c 1 && c 2 && c 3) = true then (if (decide (65536 ≤ (b 0 % 8) * 262144 + (b 1 % 64) * 4096 + (b 2 % 64) * 64 + b 3 % 64) && Utf8.valid ((b 0 % 8) * 262144 + (b 1 % 64) * 4096 + (b 2 % 64) * 64 + b 3 % 64 : Nat)) = true then ((b 0 % 8) * 262144 + (b 1 % 64) * 4096 + (b 2 % 64) * 64 + b 3 % 64, 4) else (65533, 1))
  else (65533, 1)
def contD (s : ByteArray) (i k : Nat) : Bool := decide (i + k < s.size) && (bAt s (i + k) / 64 == 2)
theorem decode_F (s : ByteArray) (i : Nat) : Utf8.decode s i = decF (fun k => bAt s (i + k)) (contD s i) := rfl
theorem decF_congr {b b' : Nat → Nat} {c c' : Nat → Bool} (h0 : b 0 = b' 0) (hc : ∀ k, c k = c' k) (hb : ∀ k, c' k = true → b k = b' k) : decF b c = decF b' c' := by
  unfold decF
  rw [h0, hc 1, hc 2, hc 3]
  cases h1 : c' 1 with
  | false => simp
  | true =>
    rw [hb 1 h1]
    cases h2 : c' 2 with
    | false => simp
    | true =>
      rw [hb 2 h2]
      cases h3 : c' 3 with
      | false => simp
      | true => rw [hb 3 h3]
theorem bAt_ext (s : ByteArray) (i k : Nat) (h : i + k < s.size) : bAt (s.extract i s.size) k = bAt s (i + k) := by
  have hz : k < (s.extract i s.size).size := by rw [ByteArray.size_extract]; omega
  rw [← bAt_get _ _ hz, ← bAt_get _ _ h]
  congr 1
  show (s.extract i s.size).data[k]'_ = s.data[i + k]'_
  simp [ByteArray.data_extract]
/-- the rest of a text is decoded as the text is from there on -/
theorem decode_ext (s : ByteArray) (i : Nat) (h : i < s.size) : Utf8.decode (s.extract i s.size) 0 = Utf8.decode s i := by
  rw [decode_F, decode_F]
  have hz : (s.extract i s.size).size = s.size - i := by rw [ByteArray.size_extract]; omega
  have hb : ∀ k, i + k < s.size → bAt (s.extract i s.size) (0 + k) = bAt s (i + k) := fun k hk => by rw [Nat.zero_add]; exact bAt_ext s i k hk
  refine decF_congr (hb 0 (by omega)) (fun k => ?_) (fun k hk => hb k ?_)
  · unfold contD
    by_cases hk : i + k < s.size
    · rw [hb k hk, hz, decide_eq_true (show 0 + k < s.size - i by omega), decide_eq_true hk]
    · rw [hz, decide_eq_false (show ¬ 0 + k < s.size - i by omega), decide_eq_false hk]; rfl
  · unfold contD at hk
    simp only [Bool.and_eq_true, decide_eq_true_eq] at hk
    exact hk.1
theorem decode_fits (s : ByteArray) (i : Nat) (h : i < s.size) : 1 ≤ (Utf8.decode s i).2 ∧ (Utf8.decode s i).2 ≤ 4 ∧ i + (Utf8.decode s i).2 ≤ s.size ∧ (Utf8.decode s i).1 ≤ 1114111 := by
  rw [decode_F]
  have hc : ∀ k, contD s i k = true → i + k < s.size := fun k hk => by
    unfold contD at hk
    simp only [Bool.and_eq_true, decide_eq_true_eq] at hk
    exact hk.1
  unfold decF
  split
  · next h0 => exact ⟨by simp, by simp, by simp; omega, Nat.le_trans (Nat.le_of_lt h0) (by decide)⟩
  · split
    · next h1 =>
      simp only [Bool.and_eq_true] at h1
      have := hc 1 h1.2
      split
      · exact ⟨by simp, by simp, by simp; omega, by simp; omega⟩
      · exact ⟨by simp, by simp, by simp; omega, by simp⟩
    · split
      · next h1 =>
        simp only [Bool.and_eq_true] at h1
        have := hc 2 h1.2
        split
        · next h2 =>
          simp only [Bool.and_eq_true, valid_iff] at h2
          exact ⟨by simp, by simp, by simp; omega, by simp only; omega⟩
        · exact ⟨by simp, by simp, by simp; omega, by simp⟩
      · split
        · next h1 =>
          simp only [Bool.and_eq_true] at h1
          have := hc 3 h1.2
          split
          · next h2 =>
            simp only [Bool.and_eq_true, valid_iff] at h2
            exact ⟨by simp, by simp, by simp; omega, by simp only; omega⟩
          · exact ⟨by simp, by simp, by simp; omega, by simp⟩
        · exact ⟨by simp, by simp, by simp; omega, by simp⟩

/-- the library's variables, as they are laid -/
def Env (w : World) : Prop := (∃ m, w.cell? ⟨0, 0, none⟩ = some (.int .i64 m)) ∧ Lib.Utf8Tabs 1 2 w
theorem cellLt {w : World} {p : Addr} {u : Value} (h : w.cell? p = some u) : p.block < w.heap.size := World.block_lt_of_cell? w _ h
theorem Env.below {w w' : World} (h : Env w) (hb : Below w.heap.size w w') : Env w' := by
  obtain ⟨⟨m, hm⟩, h1, h2⟩ := h
  exact ⟨⟨m, (hb.cell (p := ⟨0, 0, none⟩) (cellLt hm)).trans hm⟩, fun c hc => (hb.cell (p := ⟨_, c, none⟩) (cellLt (h1 c hc))).trans (h1 c hc), fun i hi => ⟨(hb.cell (p := ⟨_, 2 * i, none⟩) (cellLt (h2 i hi).1)).trans (h2 i hi).1, (hb.cell (p := ⟨_, 2 * i + 1, none⟩) (cellLt (h2 i hi).2)).trans (h2 i hi).2⟩⟩

/-- a byte that is no rune -/
def brokenB (s : ByteArray) (i : Nat) : Bool := decide (Utf8.decode s i = (65533, 1))
set_option maxRecDepth 100000 in
set_option maxHeartbeats 800000 in
theorem broken_any (s : ByteArray) (i : Nat) (w : World) (he : Env w) (_hs : s.size ≤ 1099511627776) (hi : i < s.size) :
    Calls Tryz.prog 112 #[.string s, .int .i64 i, .int .i32 (Utf8.decode s i).1] w fun e w' => e = .returned (.bool (brokenB s i)) ∧ Below w.heap.size w w' := by
  have hc1 := (decode_fits s i hi).2.2.2
  by_cases h : (Utf8.decode s i).1 = 65533
  · have hz : (s.extract i s.size).size ≠ 0 := by rw [ByteArray.size_extract]; omega
    have hd := Tryz.utf8_DecodeRuneInString (s.extract i s.size) w he.2
    have hg : Lib.decodeGo (s.extract i s.size) = Utf8.decode s i := by unfold Lib.decodeGo; rw [if_neg hz, decode_ext s i hi]
    rw [hg] at hd
    have hb : brokenB s i = ((((Utf8.decode s i).2 : Nat) : Int) == 1) := by
      unfold brokenB
      rw [Bool.eq_iff_iff]
      simp only [decide_eq_true_eq, beq_iff_eq]
      constructor
      · intro e; rw [e]; rfl
      · intro e; exact Prod.ext h (by omega)
    rw [h] at hd ⊢
    have HD := Lib.hid hd
    have HB := Lib.hid hb
    have hi0 : (0 : Int) ≤ (i : Int) := by omega
    have hi1 : (i : Int) ≤ (s.size : Int) := by omega
    clear hd hb hg h hc1 he
    generalize (Utf8.decode s i).2 = n at *
    go_enter Tryz.func112, Tryz.ntmps112
    go_wp2_with fail
    refine HD.out.mono ?_
    rintro e w1 ⟨rfl, hb1⟩
    have HB1 := Lib.hid hb1
    clear hb1
    go_wp2
    go_ret
    exact ⟨ret_bool HB.out.symm, HB1.out⟩
  · have hb : brokenB s i = false := by
      unfold brokenB
      rw [decide_eq_false_iff_not]
      intro e; exact h (by rw [e])
    have hq : ((((Utf8.decode s i).1 : Nat) : Int) != 65533) = true := by simp; omega
    have HB := Lib.hid hb
    clear hb h he
    generalize (Utf8.decode s i).1 = c at *
    go_enter Tryz.func112, Tryz.ntmps112
    go_wp2
    go_ret
    exact ⟨ret_bool HB.out.symm, Below.refl _ _⟩
end Go.Proofs.YtpeepdkeicgkiaaGreatDoor
namespace Go.Proofs.YtpeepdkeicgkiaaGreatDoor
set_option linter.unusedVariables false
set_option linter.unusedSimpArgs false
set_option linter.unusedSectionVars false
open Go.RowKit

def digN (p : Nat) : Nat := if p < 10 then 48 + p else 87 + p
/-- a digit's value; 16: it is none -/
def hexV (c : Int) : Int := if 48 ≤ c ∧ c ≤ 57 then c - 48 else if 97 ≤ c ∧ c ≤ 102 then c - 87 else 16
def isHex (c : Nat) : Bool := decide (48 ≤ c ∧ c ≤ 57) || decide (97 ≤ c ∧ c ≤ 102)
theorem hexV_dig (p : Nat) (h : p < 16) : hexV (digN p) = p := by
  unfold hexV digN
  split
  · rw [if_pos (by omega)]; omega
  · rw [if_neg (by omega), if_pos (by omega)]; omega
theorem hexV_none (c : Int) (h : ∀ p, p < 16 → (digN p : Int) ≠ c) : hexV c = 16 := by
  unfold hexV
  rw [if_neg, if_neg]
  · intro h2
    have := h (c - 87).toNat (by omega)
    unfold digN at this
    rw [if_neg (by omega)] at this
    omega
  · intro h2
    have := h (c - 48).toNat (by omega)
    unfold digN at this
    rw [if_pos (by omega)] at this
    omega
theorem hexV_is (c : Nat) : (hexV c = 16 ↔ isHex c = false) ∧ 0 ≤ hexV c ∧ hexV c ≤ 16 := by
  unfold hexV isHex
  by_cases h1 : 48 ≤ c ∧ c ≤ 57
  · rw [if_pos (by omega), decide_eq_true h1]; simp; omega
  · by_cases h2 : 97 ≤ c ∧ c ≤ 102
    · rw [if_neg (by omega), if_pos (by omega), decide_eq_true h2]; simp; omega
    · rw [if_neg (by omega), if_neg (by omega), decide_eq_false h1, decide_eq_false h2]; simp
theorem digN_hex (p : Nat) (h : p < 16) : isHex (digN p) = true := by
  unfold isHex digN
  split
  · rw [decide_eq_true (by omega)]; rfl
  · rw [decide_eq_true (show 97 ≤ 87 + p ∧ 87 + p ≤ 102 by omega)]; simp
def allHex (l : List UInt8) : Bool := l.all fun c => isHex c.toNat
/-- a name: 64 digits -/
def isNameD (s : ByteArray) : Bool := decide (s.size = 64) && allHex s.data.toList
theorem isHex_low {c : Nat} (h : isHex c = true) : c < 128 := by
  unfold isHex at h
  simp only [Bool.or_eq_true, decide_eq_true_eq] at h
  omega
/-- a digit is read as itself -/
theorem decode_hex (s : ByteArray) (p : Nat) (h : isHex (bAt s p) = true) : Utf8.decode s p = (bAt s p, 1) := by
  rw [decode_F]
  unfold decF
  simp only [Nat.add_zero]
  rw [if_pos (isHex_low h)]
/-- what is read as a digit is one -/
theorem hex_decode (s : ByteArray) (p : Nat) (h : isHex (Utf8.decode s p).1 = true) : Utf8.decode s p = (bAt s p, 1) ∧ isHex (bAt s p) = true := by
  by_cases hb : bAt s p < 128
  · have e : Utf8.decode s p = (bAt s p, 1) := by
      rw [decode_F]
      unfold decF
      simp only [Nat.add_zero]
      rw [if_pos hb]
    rw [e] at h
    exact ⟨e, h⟩
  · exfalso
    have hlow := isHex_low h
    rw [decode_F] at hlow
    unfold decF at hlow
    simp only [Nat.add_zero] at hlow
    rw [if_neg hb] at hlow
    split at hlow
    · split at hlow
      · simp only at hlow; omega
      · simp at hlow
    · split at hlow
      · split at hlow
        · next h2 => simp only [Bool.and_eq_true, decide_eq_true_eq] at h2; simp only at hlow; omega
        · simp at hlow
      · split at hlow
        · split at hlow
          · next h2 => simp only [Bool.and_eq_true, decide_eq_true_eq] at h2; simp only at hlow; omega
          · simp at hlow
        · simp at hlow
theorem allHex_take (s : ByteArray) (k : Nat) (h : k < s.size) (hp : allHex (s.data.toList.take k) = true) (hc : isHex (bAt s k) = true) : allHex (s.data.toList.take (k + 1)) = true :=
  ba_all_snoc s k h hp (by rw [bAt_get s k h]; exact hc)
theorem allHex_false (s : ByteArray) (k : Nat) (h : k < s.size) (hc : isHex (bAt s k) = false) : allHex s.data.toList = false :=
  ba_all_false s k h (by rw [bAt_get s k h]; exact hc)
def hexText : ByteArray := ⟨#[48, 49, 50, 51, 52, 53, 54, 55, 56, 57, 97, 98, 99, 100, 101, 102]⟩
theorem hexText_decode : ∀ p, p < 16 → Utf8.decode hexText p = (digN p, 1) := by decide +kernel
end Go.Proofs.YtpeepdkeicgkiaaGreatDoor
namespace Go.Proofs.YtpeepdkeicgkiaaGreatDoor
set_option linter.unusedVariables false
set_option linter.unusedSimpArgs false
set_option linter.unusedSectionVars false
open Go.RowKit

set_option maxRecDepth 100000 in
set_option maxHeartbeats 800000 in
theorem value_any (c : Int) (w : World) : Calls Tryz.prog 129 #[.int .i32 c] w fun e w' => e = .returned (.int .i64 (hexV c)) ∧ Below w.heap.size w w' := by
  go_enter Tryz.func129, Tryz.ntmps129
  go_wp2
  go_loopw [3] (fun _ wr => ∃ p : Nat, p ≤ 16 ∧ wr.heap[w.heap.size]? = some (.stringIter hexText p) ∧ Below w.heap.size w wr ∧ ∀ j, j < p → (digN j : Int) ≠ c) (fun _ wr => 16 - wr.iterPos w.heap.size)
  case atStart => exact ⟨0, by decide, World.iter_heap w _ 0, (Below.refl _ w).alloc (Nat.le_refl _) _, fun j h => absurd h (by omega)⟩
  case round =>
    obtain ⟨p, hp16, hit, hb, hn⟩ := hrel
    have HPOS := Lib.hid (show wr.iterPos w.heap.size = p by unfold World.iterPos; rw [hit])
    have HIT := Lib.hid hit
    have HN := Lib.hid hn
    clear hn
    by_cases hp : p < 16
    · have hd := hexText_decode p hp
      have hnx : ∀ ty, (Instr.next (.pointer (some ⟨w.heap.size, 0, none⟩)) true ty).run Tryz.prog wr = _ := fun ty => Lib.run_next_any_at wr w.heap.size hexText p ty HIT.out hp
      rw [hd] at hnx
      have HW1 := Lib.hid (Lib.iterAt_heap wr w.heap.size hexText p (p + 1) hit)
      have HB1 := Lib.hid (Lib.below_iterAt hb (Nat.le_refl _) hexText (p + 1))
      have HV := Lib.hid (hexV_dig p hp)
      clear hit hb hd
      generalize hD : digN p = d at *
      have HD := Lib.hid hD
      clear hD
      generalize hW2 : wr.iterAt w.heap.size hexText (p + 1) = W2 at *
      clear hW2
      by_cases hq : (d : Int) = c
      · have HC := Lib.hid hq
        have hq1 : ((d : Int) == c) = true := by simpa using hq
        clear hq
        go_wp2
        go_ret
        exact ⟨ret_int (by rw [← HC.out, HV.out]), HB1.out⟩
      · have HC := Lib.hid hq
        have hq1 : ((d : Int) == c) = false := by simpa using hq
        clear hq
        go_wp2
        go_roundw
        case rel => exact ⟨p + 1, by omega, HW1.out, HB1.out, fun j hj => by
          rcases (by omega : j < p ∨ j = p) with h | rfl
          · exact HN.out j h
          · rw [HD.out]; exact HC.out⟩
        case measure =>
          have : W2.iterPos w.heap.size = p + 1 := by unfold World.iterPos; rw [HW1.out]
          rw [this, HPOS.out]; omega
    · have hnx : ∀ ty, (Instr.next (.pointer (some ⟨w.heap.size, 0, none⟩)) true ty).run Tryz.prog wr = _ := fun ty => Lib.run_next_end_at wr w.heap.size hexText p ty HIT.out hp
      have HB := Lib.hid hb
      have HF := Lib.hid (hexV_none c fun j hj => HN.out j (by omega))
      clear hb hit
      go_wp2
      go_ret
      exact ⟨ret_int HF.out.symm, HB.out⟩

theorem ownsRow_below {B : Nat} {e : TypeId} {k : Nat} {v : Value} {n : Nat} {xs : List Value} {w w' : World} (h : w.ownsRow B e k v n xs) (hb : Below w.heap.size w w') : w'.ownsRow B e k v n xs :=
  h.kept (row := none) ⟨hb.os, hb.tape, hb.output, hb.size, fun j hj _ => hb.block j hj⟩ (by cases hv : v.ownBlock <;> simp)
def UnhexPost (s : ByteArray) (e : Ending) : Prop := ∃ t, e = .returned (.tuple #[.string t, .bool (allHex s.data.toList && decide (s.size % 2 = 0))])
set_option maxRecDepth 100000 in
set_option maxHeartbeats 1600000 in
theorem unhex_any (s : ByteArray) (w : World) (hs : s.size ≤ 140737488355328) : Calls Tryz.prog 113 #[.string s] w fun e w' => UnhexPost s e ∧ Below w.heap.size w w' := by
  go_enter Tryz.func113, Tryz.ntmps113
  go_wp2
  go_loopw [4, 5] (fun v h wr => ∃ (vv : Value) (p k : Nat) (l : List UInt8), vv = v ∧ p ≤ s.size ∧ wr.heap[w.heap.size]? = some (.stringIter s p) ∧ Below w.heap.size w wr ∧ wr.ownsRow (w.heap.size + 1) 5 1 v l.length (bytesV l) ∧ l.length ≤ p ∧ allHex (s.data.toList.take p) = true ∧ h = .int .i64 (k : Nat) ∧ k ≤ 16 ∧ (k = 16 ↔ p % 2 = 0)) (fun _ _ wr => s.size - wr.iterPos w.heap.size)
  case atStart => exact ⟨_, 0, 16, [], rfl, Nat.zero_le _, World.iter_heap w s 0, (Below.refl _ w).alloc (Nat.le_refl _) _, ⟨rfl, Or.inl ⟨rfl, rfl⟩⟩, by simp, rfl, rfl, by decide, by simp⟩
  case round =>
    obtain ⟨v, p, k, l, rfl, hps, hit, hb, hown, hll, hall, rfl, hk16, hkp⟩ := hrel
    have HPOS := Lib.hid (show wr.iterPos w.heap.size = p by unfold World.iterPos; rw [hit])
    have HIT := Lib.hid hit
    have HALL := Lib.hid hall
    have HKP := Lib.hid hkp
    clear hall hkp
    by_cases hp : p < s.size
    · have hnx : ∀ ty, (Instr.next (.pointer (some ⟨w.heap.size, 0, none⟩)) true ty).run Tryz.prog wr = _ := fun ty => Lib.run_next_any_at wr w.heap.size s p ty HIT.out hp
      obtain ⟨f1, f2, f3, f4⟩ := decode_fits s p hp
      have HW1 := Lib.hid (Lib.iterAt_heap wr w.heap.size s p (p + (Utf8.decode s p).2) hit)
      have HB1 := Lib.hid (Lib.below_iterAt hb (Nat.le_refl _) s (p + (Utf8.decode s p).2))
      have HOW := Lib.hid (ownsRow_iterAt hown (k := w.heap.size) (by omega) s (p + (Utf8.decode s p).2))
      have HD := Lib.hid (hex_decode s p)
      have HE := Lib.hid (decode_hex s p)
      have HVI := Lib.hid (hexV_is (Utf8.decode s p).1)
      have HVA := Lib.hid fun W => value_any ((Utf8.decode s p).1 : Int) W
      generalize hcn : Utf8.decode s p = cn at *
      obtain ⟨c, n⟩ := cn
      have HCN := Lib.hid hcn
      clear hcn hit hb hown
      simp only at f1 f2 f3 f4 hnx HW1 HB1 HOW HVI HVA HD HE
      generalize hW2 : wr.iterAt w.heap.size s (p + n) = W2 at *
      clear hW2
      cases hx : isHex c with
      | false =>
        have HF := Lib.hid (allHex_false s p hp (by
          cases hy : isHex (bAt s p) with
          | false => rfl
          | true => have := HE.out hy; simp only [Prod.mk.injEq] at this; rw [← this.1, hx] at hy; simp at hy))
        have hv : hexV c = 16 := HVI.out.1.2 hx
        rw [hv] at HVA
        clear hx hv
        go_wp2_with fail
        refine (HVA.out _).mono ?_
        rintro e w4 ⟨rfl, hb4⟩
        have HB4 := Lib.hid hb4
        clear hb4
        go_wp2
        go_ret2
        exact ⟨⟨_, by rw [HF.out]; rfl⟩, HB1.out.trans (HB4.out.mono HB1.out.size)⟩
      | true =>
        obtain ⟨h1, h2⟩ := HD.out hx
        simp only [Prod.mk.injEq] at h1
        obtain ⟨rfl, rfl⟩ := h1
        have HSTEP := Lib.hid (allHex_take s p hp HALL.out h2)
        obtain ⟨g1, g2, g3⟩ := HVI.out
        obtain ⟨u, hu⟩ : ∃ u : Nat, hexV (bAt s p) = u := ⟨(hexV (bAt s p)).toNat, by omega⟩
        have hu16 : u < 16 := by
          rcases (by omega : u < 16 ∨ u = 16) with h | h
          · exact h
          · rw [hu, h] at g1
            have := g1.1 rfl
            rw [hx] at this; simp at this
        rw [hu] at HVA
        have hq1 : ((u : Int) == 16) = false := by simp; omega
        have HW1' := HW1
        clear hx h2 g1 g2 g3 hu
        go_wp2_with fail
        refine (HVA.out _).mono ?_
        rintro e w4 ⟨rfl, hb4⟩
        have hown4 := ownsRow_below HOW.out hb4
        have HIT4 := Lib.hid ((hb4.block w.heap.size (Array.getElem?_eq_some_iff.1 HW1.out).1).trans HW1.out)
        have HB4 := Lib.hid (HB1.out.trans (hb4.mono HB1.out.size))
        have hsz : w.heap.size + 1 ≤ w4.heap.size := (Array.getElem?_eq_some_iff.1 HIT4.out).1
        clear hb4
        by_cases hk : k = 16
        · have HK := Lib.hid hk
          have hq2 : ((k : Int) == 16) = true := by simp; omega
          clear hk
          go_wp2
          go_roundw
          case rel => exact ⟨v, p + 1, u, l, rfl, by omega, HIT4.out, HB4.out, hown4, by omega, HSTEP.out, rfl, by omega, by have := HKP.out; have := HK.out; omega⟩
          case measure =>
            have : w4.iterPos w.heap.size = p + 1 := by unfold World.iterPos; rw [HIT4.out]
            rw [this, HPOS.out]; omega
        · have HK := Lib.hid hk
          have hq2 : ((k : Int) == 16) = false := by simp; omega
          clear hk
          go_wp2_with (at_builtin; refine wpList_app1 rfl _ _ 76 rfl (w.heap.size + 1) 5 Tryz.underlying76 infoB rfl (by decide) _ _ _ rfl hown4 _ rfl rfl (oneCell_int _ _) ?_ ?_ ?_ ?_; omega; omega; omega; intro g1 cap1 w5 hown' hgr hbw _)
          have hb5 : ∀ z : Int, 0 ≤ z % 256 ∧ z % 256 < 256 := fun z => by omega
          go_roundw
          case rel =>
            refine ⟨_, p + 1, 16, l ++ [UInt8.ofNat (bits BinOp.or IntKind.i64 ((k : Int) * 16) (u : Int) % 256).toNat], rfl, by omega, (hbw.block _ (by omega)).trans HIT4.out, HB4.out.trans (hbw.mono (by omega)), ?_, by simp; omega, HSTEP.out, rfl, by decide, by have := HKP.out; have := HK.out; omega⟩
            rw [bytesV_app]
            have e : bytesV [UInt8.ofNat (bits BinOp.or IntKind.i64 ((k : Int) * 16) (u : Int) % 256).toNat] = [Value.int .u8 (bits BinOp.or IntKind.i64 ((k : Int) * 16) (u : Int) % 256)] := by
              obtain ⟨z1, z2⟩ := hb5 (bits BinOp.or IntKind.i64 ((k : Int) * 16) (u : Int))
              simp only [bytesV, List.map_cons, List.map_nil]
              rw [u8_small (by omega)]
              congr 2
              omega
            rw [e]
            simpa using hown'
          case measure =>
            have : w5.iterPos w.heap.size = p + 1 := by unfold World.iterPos; rw [hbw.block _ (by omega), HIT4.out]
            rw [this, HPOS.out]; omega
    · have hnx : ∀ ty, (Instr.next (.pointer (some ⟨w.heap.size, 0, none⟩)) true ty).run Tryz.prog wr = _ := fun ty => Lib.run_next_end_at wr w.heap.size s p ty HIT.out hp
      have hpe : p = s.size := by omega
      have HF := Lib.hid (show allHex s.data.toList = true by have := HALL.out; rw [hpe, ba_take_all] at this; exact this)
      have hcv := run_convert_own 76 9 5 Tryz.underlying76 Tryz.underlying5 Tryz.underlying9 hown
      have HB := Lib.hid hb
      by_cases hk : k = 16
      · have HE := Lib.hid (show decide (s.size % 2 = 0) = true from decide_eq_true (by have := HKP.out; omega))
        have hq2 : ((k : Int) != 16) = false := by simp; omega
        clear hb hit hown hk hpe
        go_wp2
        go_ret2
        exact ⟨⟨_, by rw [HF.out, HE.out]; rfl⟩, HB.out⟩
      · have HE := Lib.hid (show decide (s.size % 2 = 0) = false from decide_eq_false (by have := HKP.out; omega))
        have hq2 : ((k : Int) != 16) = true := by simp; omega
        clear hb hit hown hk hpe
        go_wp2
        go_ret2
        exact ⟨⟨_, by rw [HF.out, HE.out]; rfl⟩, HB.out⟩

set_option maxRecDepth 100000 in
set_option maxHeartbeats 400000 in
theorem dis_any (s : ByteArray) (w : World) (hs : s.size ≤ 140737488355328) : Calls Tryz.prog 75 #[.string s] w fun e w' => e = .returned (.bool (isNameD s)) ∧ Below w.heap.size w w' := by
  have H1 := Lib.hid (unhex_any s w hs)
  have HN := Lib.hid (show isNameD s = (decide (s.size = 64) && allHex s.data.toList) from rfl)
  go_enter Tryz.func75, Tryz.ntmps75
  go_wp2_with fail
  refine H1.out.mono ?_
  rintro e w1 ⟨⟨t, rfl⟩, hb⟩
  by_cases h64 : s.size = 64
  · rw [decide_eq_true h64] at HN
    have he : decide (s.size % 2 = 0) = true := decide_eq_true (by omega)
    rw [he]
    have hq : ((s.size : Int) == 64) = true := by simp; omega
    clear h64 he
    generalize allHex s.data.toList = b at *
    cases b
    all_goals
      go_wp2
      go_ret
      exact ⟨ret_bool (by rw [HN.out]; rfl), hb⟩
  · rw [decide_eq_false h64] at HN
    have hq : ((s.size : Int) == 64) = false := by simp; omega
    clear h64
    cases (allHex s.data.toList && decide (s.size % 2 = 0))
    all_goals
      go_wp2
      go_ret
      exact ⟨ret_bool (by rw [HN.out]; rfl), hb⟩
end Go.Proofs.YtpeepdkeicgkiaaGreatDoor
namespace Go.Proofs.YtpeepdkeicgkiaaGreatDoor
set_option linter.unusedVariables false
set_option linter.unusedSimpArgs false
set_option linter.unusedSectionVars false
open Go.RowKit

def badN (s : ByteArray) (p : Nat) : Bool := decide ((Utf8.decode s p).1 < 32) || decide ((Utf8.decode s p).1 = 47) || decide ((Utf8.decode s p).1 = 127) || brokenB s p
/-- are all runes from a place on such as a name may have? -/
def nameFrom (s : ByteArray) : Nat → Nat → Bool
  | 0, _ => true
  | f + 1, p => if p < s.size then (if badN s p = true then false else nameFrom s f (p + (Utf8.decode s p).2)) else true
def nameOk (s : ByteArray) : Bool := decide (1 ≤ s.size) && decide (s ≠ ⟨#[46]⟩) && decide (s ≠ ⟨#[46, 46]⟩) && decide (s.size ≤ 60) && nameFrom s s.size 0
theorem nameFrom_end (s : ByteArray) (f p : Nat) (h : ¬ p < s.size) : nameFrom s f p = true := by
  cases f with
  | zero => rfl
  | succ f => simp [nameFrom, h]
theorem nameFrom_step (s : ByteArray) (f p : Nat) (h : p < s.size) (hf : s.size ≤ p + f) (hb : badN s p = false) : ∃ g, nameFrom s f p = nameFrom s g (p + (Utf8.decode s p).2) ∧ s.size ≤ p + (Utf8.decode s p).2 + g := by
  obtain ⟨g, rfl⟩ : ∃ g, f = g + 1 := ⟨f - 1, by omega⟩
  have := (decode_fits s p h).1
  exact ⟨g, by simp [nameFrom, h, hb], by omega⟩
theorem nameFrom_bad (s : ByteArray) (f p : Nat) (h : p < s.size) (hf : s.size ≤ p + f) (hb : badN s p = true) : nameFrom s f p = false := by
  obtain ⟨g, rfl⟩ : ∃ g, f = g + 1 := ⟨f - 1, by omega⟩
  simp [nameFrom, h, hb]
theorem list_ne {s : ByteArray} {l : List UInt8} (h : s ≠ ⟨l.toArray⟩) : (s.toList == l) = false := by
  have : ¬ s.toList = l := fun e => h (by
    rw [ba_toList] at e
    exact ByteArray.ext (by rw [← e]))
  simpa using this
theorem toList_nil {s : ByteArray} (h : 1 ≤ s.size) : s.toList.isEmpty = false := by
  rw [toList_isEmpty]
  exact decide_eq_false (by omega)
theorem dot_cases (s : ByteArray) : s.size = 0 ∨ s = ⟨#[46]⟩ ∨ s = ⟨#[46, 46]⟩ ∨ (1 ≤ s.size ∧ s ≠ ⟨#[46]⟩ ∧ s ≠ ⟨#[46, 46]⟩) := by
  by_cases h0 : s.size = 0
  · exact Or.inl h0
  · by_cases h1 : s = ⟨#[46]⟩
    · exact Or.inr (Or.inl h1)
    · by_cases h2 : s = ⟨#[46, 46]⟩
      · exact Or.inr (Or.inr (Or.inl h2))
      · exact Or.inr (Or.inr (Or.inr ⟨by omega, h1, h2⟩))
theorem size0 {s : ByteArray} (h : s.size = 0) : s = ⟨#[]⟩ := by
  apply ByteArray.ext
  exact Array.eq_empty_of_size_eq_zero h

set_option maxRecDepth 100000 in
set_option maxHeartbeats 3200000 in
theorem pname_any (s : ByteArray) (w : World) (he : Env w) (hs : s.size ≤ 1099511627776) :
    Calls Tryz.prog 74 #[.string s] w fun e w' => e = .returned (.bool (nameOk s)) ∧ Below w.heap.size w w' := by
  have HE := Lib.hid fun W (hb : Below w.heap.size w W) => he.below hb
  clear he
  rcases dot_cases s with h | h | h | ⟨h0, h1, h2⟩
  · have := size0 h
    subst this
    have HN := Lib.hid (show nameOk ⟨#[]⟩ = false by decide +kernel)
    go_enter Tryz.func74, Tryz.ntmps74
    go_wp2
    go_ret
    exact ⟨ret_bool HN.out.symm, Below.refl _ _⟩
  · subst h
    have HN := Lib.hid (show nameOk ⟨#[46]⟩ = false by decide +kernel)
    go_enter Tryz.func74, Tryz.ntmps74
    go_wp2
    go_ret
    exact ⟨ret_bool HN.out.symm, Below.refl _ _⟩
  · subst h
    have HN := Lib.hid (show nameOk ⟨#[46, 46]⟩ = false by decide +kernel)
    go_enter Tryz.func74, Tryz.ntmps74
    go_wp2
    go_ret
    exact ⟨ret_bool HN.out.symm, Below.refl _ _⟩
  · have hq0 := toList_nil h0
    have hq1 := list_ne (l := [46]) h1
    have hq2 := list_ne (l := [46, 46]) h2
    have e1 : nameOk s = (decide (s.size ≤ 60) && nameFrom s s.size 0) := by
      unfold nameOk
      rw [decide_eq_true h0, decide_eq_true h1, decide_eq_true h2]; simp
    have H12 := Lib.hid (And.intro h1 h2)
    clear h1 h2
    by_cases hz : s.size ≤ 60
    · rw [decide_eq_true hz, Bool.true_and] at e1
      have E1 := Lib.hid e1
      clear e1
      go_enter Tryz.func74, Tryz.ntmps74
      go_wp2
      go_loopw [3] (fun _ wr => ∃ (p f : Nat), wr.heap[w.heap.size]? = some (.stringIter s p) ∧ Below w.heap.size w wr ∧ nameFrom s f p = nameFrom s s.size 0 ∧ s.size ≤ p + f) (fun _ wr => s.size - wr.iterPos w.heap.size)
      case atStart => exact ⟨0, s.size, World.iter_heap w s 0, (Below.refl _ w).alloc (Nat.le_refl _) _, rfl, by omega⟩
      case round =>
        obtain ⟨p, f, hit, hb, hn, hf⟩ := hrel
        have hpos : wr.iterPos w.heap.size = p := by unfold World.iterPos; rw [hit]
        have HPOS := Lib.hid hpos
        have HIT := Lib.hid hit
        have HN := Lib.hid hn
        clear hn hpos
        by_cases hp : p < s.size
        · have hnx : ∀ ty, (Instr.next (.pointer (some ⟨w.heap.size, 0, none⟩)) true ty).run Tryz.prog wr = _ := fun ty => Lib.run_next_any_at wr w.heap.size s p ty HIT.out hp
          have hfit := decode_fits s p hp
          have HW1 := Lib.hid (Lib.iterAt_heap wr w.heap.size s p (p + (Utf8.decode s p).2) hit)
          have HB1 := Lib.hid (Lib.below_iterAt hb (Nat.le_refl _) s (p + (Utf8.decode s p).2))
          have HBR := Lib.hid fun W (h : Env W) => broken_any s p W h hs hp
          have hbad := nameFrom_bad s f p hp hf
          have hstep := nameFrom_step s f p hp hf
          have hbN : badN s p = (decide ((Utf8.decode s p).1 < 32) || decide ((Utf8.decode s p).1 = 47) || decide ((Utf8.decode s p).1 = 127) || brokenB s p) := rfl
          have HBAD := Lib.hid hbad
          have HSTEP := Lib.hid hstep
          have HBN := Lib.hid hbN
          clear hbad hstep hbN hit hb
          obtain ⟨f1, f2, f3, f4⟩ := hfit
          generalize (Utf8.decode s p).1 = c at *
          generalize (Utf8.decode s p).2 = n at *
          have HE2 := Lib.hid (HE.out _ HB1.out)
          generalize hW2 : wr.iterAt w.heap.size s (p + n) = W2 at *
          have HW2 := Lib.hid hW2
          clear hW2
          rcases (by omega : (c : Int) < 32 ∨ ((32 : Int) ≤ (c : Int) ∧ c = 47) ∨ ((32 : Int) ≤ (c : Int) ∧ c ≠ 47 ∧ c = 127) ∨ ((32 : Int) ≤ (c : Int) ∧ c ≠ 47 ∧ c ≠ 127)) with g | ⟨g1, g2⟩ | ⟨g1, g2, g3⟩ | ⟨g1, g2, g3⟩
          · have HF := Lib.hid (HBAD.out (by rw [HBN.out, decide_eq_true (show c < 32 by omega)]; rfl))
            go_wp2
            go_ret
            exact ⟨ret_bool (by rw [E1.out, ← HN.out, HF.out]), HB1.out⟩
          · have HF := Lib.hid (HBAD.out (by rw [HBN.out, decide_eq_true g2]; simp))
            subst g2
            go_wp2
            go_ret
            exact ⟨ret_bool (by rw [E1.out, ← HN.out, HF.out]), HB1.out⟩
          · have HF := Lib.hid (HBAD.out (by rw [HBN.out, decide_eq_true g3]; simp))
            subst g3
            go_wp2
            go_ret
            exact ⟨ret_bool (by rw [E1.out, ← HN.out, HF.out]), HB1.out⟩
          · have q1 : ((c : Int) == 47) = false := by simp; omega
            have q2 : ((c : Int) == 127) = false := by simp; omega
            have HBB := Lib.hid (show badN s p = brokenB s p by rw [HBN.out, decide_eq_false (show ¬ c < 32 by omega), decide_eq_false g2, decide_eq_false g3]; rfl)
            clear g2 g3
            go_wp2_with fail
            refine (HBR.out _ HE2.out).mono ?_
            rintro e w4 ⟨rfl, hb4⟩
            have HB4 := Lib.hid hb4
            clear hb4 HBR
            cases hbr : brokenB s p with
            | true =>
              have HF := Lib.hid (HBAD.out (by rw [HBB.out, hbr]))
              clear hbr
              go_wp2
              go_ret
              exact ⟨ret_bool (by rw [E1.out, ← HN.out, HF.out]), HB1.out.trans (HB4.out.mono HB1.out.size)⟩
            | false =>
              obtain ⟨g, e2, e3⟩ := HSTEP.out (by rw [HBB.out, hbr])
              have HG := Lib.hid e2
              have HIT4 := Lib.hid ((HB4.out.block w.heap.size (Array.getElem?_eq_some_iff.1 HW1.out).1).trans HW1.out)
              clear hbr e2
              go_wp2
              go_roundw
              case rel => exact ⟨p + n, g, HIT4.out, HB1.out.trans (HB4.out.mono HB1.out.size), HG.out.symm.trans HN.out, e3⟩
              case measure =>
                have : w4.iterPos w.heap.size = p + n := by unfold World.iterPos; rw [HIT4.out]
                rw [this, HPOS.out]; omega
        · have hnx : ∀ ty, (Instr.next (.pointer (some ⟨w.heap.size, 0, none⟩)) true ty).run Tryz.prog wr = _ := fun ty => Lib.run_next_end_at wr w.heap.size s p ty HIT.out hp
          have HF := Lib.hid (nameFrom_end s f p hp)
          have HB := Lib.hid hb
          clear hb hit
          go_wp2
          go_ret
          exact ⟨ret_bool (by rw [E1.out, ← HN.out, HF.out]), HB.out⟩
    · rw [decide_eq_false hz, Bool.false_and] at e1
      have E1 := Lib.hid e1
      clear e1
      go_enter Tryz.func74, Tryz.ntmps74
      go_wp2
      go_ret
      exact ⟨ret_bool E1.out.symm, Below.refl _ _⟩
end Go.Proofs.YtpeepdkeicgkiaaGreatDoor
namespace Go.Proofs.YtpeepdkeicgkiaaGreatDoor
set_option linter.unusedVariables false
set_option linter.unusedSimpArgs false
set_option linter.unusedSectionVars false
open Go Go.RowKit Go.Shelf Go.Lib

def listed : List (String × DataW Unit) := [("unicode/utf8.acceptRanges", Rows.laid_unicode_utf8_acceptRanges), ("unicode/utf8.first", Rows.laid_unicode_utf8_first)]
theorem first_eq : Rows.laid_unicode_utf8_first = Lib.firstData := by kernel_rfl
theorem accept_eq : Rows.laid_unicode_utf8_acceptRanges = Lib.acceptData := by kernel_rfl
theorem env_of {W : World} (hL : laidMetH Tryz.prog listed W) (hsh : W.ShapedOpen Tryz.prog) : Env W := by
  rw [MakeChecks.laidMetH_plain _ _ _ (by kernel_rfl)] at hL
  have h1 := Lib.laidMet.reads hL (.head _)
  have h2 := Lib.laidMet.reads hL (.tail _ (.head _))
  rw [accept_eq] at h1
  rw [first_eq] at h2
  refine ⟨cell_of_shapedOpen_int (zero := #[.int .i64 0]) (t := 3) hsh (by decide +kernel) (by kernel_rfl) rfl (by kernel_rfl) (by kernel_rfl) Tryz.underlying3, ?_⟩
  exact utf8Tabs_of_reads { Tryz.lays197 with } ⟨by kernel_rfl, by kernel_rfl, by kernel_rfl, by kernel_rfl, by kernel_rfl, by kernel_rfl, by kernel_rfl⟩ h2 h1

variable {H : Type} {enc : TypeId × Value → H}
/-- a row's contract out of a walk that is told of the listed variables and of the world's shape -/
theorem handed_listed {C : Checked} {os : Os} {f : FuncId} {fn : Func} {s : ChangeSpec} {conds : List PathCond} {apart fresh handsOn again : Bool} {laid : List (String × DataW Unit)}
    (own : ownKnob C.prog.godebug = none) (started : os.Started) (noInit : C.prog.inits.idxOf? f = none) (hfn : C.prog.funcs[f]? = some fn)
    (witness : ∃ (w : World) (tape : Tape) (i : Input), w.os = os ∧ (w.forCall tape i).Shaped C.prog ∧ i.vars = [] ∧ Input.okWide C.prog (w.forCall tape i) .any w.heap.size f i ∧
      ((s.pre enc C.prog fn conds apart (w.forCall tape i).memory i.args ∧ laidMetH C.prog laid (w.forCall tape i).memory) ∧ sizedMet enc C.prog fn (OpenSpec.ofChange s) apart (w.forCall tape i).memory i.args) ∧ ({} : Assume).holds C.prog (lone (Frame.enter C.prog f i.args .normal) [] (w.forCall tape i)))
    (walk : ∀ (W : World) (base : Nat) (args : Array Value) (ds gs : List (DataW H)) (before : List MemPlace),
      (∀ (j : Nat) t v, fn.params[j]? = some t → args[j]? = some v → Value.okWide C.prog W .any base t v) →
      DataW.Whole enc C.prog fn.params.toList s.vars apart W args.toList ds gs before →
      laidMetH C.prog laid W → W.ShapedOpen C.prog →
      Calls C.prog f args W fun e W' => ∃ v, e = .returned v ∧ s.post enc C.prog fn apart fresh handsOn again W args v W') :
    ReturnsInHanded {} C os f .any (fun w args => (s.pre enc C.prog fn conds apart w args ∧ laidMetH C.prog laid w) ∧ sizedMet enc C.prog fn (OpenSpec.ofChange s) apart w args) (s.post enc C.prog fn apart fresh handsOn again) := by
  refine returnsInHanded_of_calls own started noInit witness fun w tape i _ hsh _ hok hpre _ => ?_
  obtain ⟨_, _, _, fn', hfn', _, _, _, _, hval⟩ := hok
  obtain rfl : fn' = fn := Option.some.inj (hfn'.symm.trans hfn)
  obtain ⟨⟨⟨ds, gs, before, hw, _⟩, hx⟩, _⟩ := hpre
  refine (walk (w.forCall tape i) w.heap.size i.args ds gs before hval (DataW.Whole.of_heap (by rfl) hw) (laidMetH.of_heap (by rfl) hx) hsh).mono ?_
  rintro e W' ⟨v, rfl, hp⟩
  exact ChangeSpec.post_blind hp
end Go.Proofs.YtpeepdkeicgkiaaGreatDoor
namespace Go.Proofs.YtpeepdkeicgkiaaGreatDoor
set_option linter.unusedVariables false
set_option linter.unusedSimpArgs false
set_option linter.unusedSectionVars false
open Go Go.RowKit Go.Shelf Go.Lib

variable {H : Type} {enc : TypeId × Value → H}
theorem handed_sized {C : Checked} {os : Os} {f : FuncId} {fn : Func} {s : ChangeSpec} {conds : List PathCond} {apart fresh handsOn again : Bool} {laid : List (String × DataW Unit)}
    (own : ownKnob C.prog.godebug = none) (started : os.Started) (noInit : C.prog.inits.idxOf? f = none) (hfn : C.prog.funcs[f]? = some fn)
    (witness : ∃ (w : World) (tape : Tape) (i : Input), w.os = os ∧ (w.forCall tape i).Shaped C.prog ∧ i.vars = [] ∧ Input.okWide C.prog (w.forCall tape i) .any w.heap.size f i ∧
      ((s.pre enc C.prog fn conds apart (w.forCall tape i).memory i.args ∧ laidMetH C.prog laid (w.forCall tape i).memory) ∧ sizedMet enc C.prog fn (OpenSpec.ofChange s) apart (w.forCall tape i).memory i.args) ∧ ({} : Assume).holds C.prog (lone (Frame.enter C.prog f i.args .normal) [] (w.forCall tape i)))
    (walk : ∀ (W : World) (base : Nat) (args : Array Value) (ds gs : List (DataW H)) (before : List MemPlace),
      (∀ (j : Nat) t v, fn.params[j]? = some t → args[j]? = some v → Value.okWide C.prog W .any base t v) →
      DataW.Whole enc C.prog fn.params.toList s.vars apart W args.toList ds gs before →
      laidMetH C.prog laid W → W.ShapedOpen C.prog →
      (DataW.weightsEach C.prog (fn.params.toList ++ s.plain.varTypes C.prog) (ds ++ gs)).all (· ≤ reachBytes) = true →
      Calls C.prog f args W fun e W' => ∃ v, e = .returned v ∧ s.post enc C.prog fn apart fresh handsOn again W args v W') :
    ReturnsInHanded {} C os f .any (fun w args => (s.pre enc C.prog fn conds apart w args ∧ laidMetH C.prog laid w) ∧ sizedMet enc C.prog fn (OpenSpec.ofChange s) apart w args) (s.post enc C.prog fn apart fresh handsOn again) := by
  refine returnsInHanded_of_calls own started noInit witness fun w tape i _ hsh _ hok hpre _ => ?_
  obtain ⟨_, _, _, fn', hfn', _, _, _, _, hval⟩ := hok
  obtain rfl : fn' = fn := Option.some.inj (hfn'.symm.trans hfn)
  obtain ⟨⟨⟨ds, gs, before, hw, _⟩, hx⟩, hz⟩ := hpre
  refine (walk (w.forCall tape i) w.heap.size i.args ds gs before hval (DataW.Whole.of_heap (by rfl) hw) (laidMetH.of_heap (by rfl) hx) hsh (hz.weights hw)).mono ?_
  rintro e W' ⟨v, rfl, hp⟩
  exact ChangeSpec.post_blind hp
end Go.Proofs.YtpeepdkeicgkiaaGreatDoor
