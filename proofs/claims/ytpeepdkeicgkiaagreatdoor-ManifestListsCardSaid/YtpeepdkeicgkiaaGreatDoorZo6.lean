/- SHA-256: a block of 64 bytes. SHA-256: texts added up. -/
import Derived.Test.YtpeepdkeicgkiaaGreatDoorZo5
import Derived.IntWalk
import Derived.Deep.RegionWith
import Derived.RegionTactic
import Derived.StillTailTactics
namespace Go.Proofs.YtpeepdkeicgkiaaGreatDoor
set_option linter.unusedVariables false
set_option linter.unusedSimpArgs false
set_option linter.unusedSectionVars false
open Go.RowKit

def wCells (l : List W32) : Array Value := (l.map fun x => Value.int .u32 (iW x)).toArray
theorem wCells_get {l : List W32} {i : Nat} (h : i < l.length) : (wCells l)[i]? = some (.int .u32 (iW l[i])) := by simp [wCells, List.getElem?_eq_getElem h]
theorem wCells_set (l : List W32) (i : Nat) (x : W32) : (wCells l).setIfInBounds i (.int .u32 (iW x)) = wCells (l.set i x) := by
  simp [wCells, List.map_set]
/-- the words so far, and noughts -/
def schedZ (l : List UInt8) (k : Nat) : List W32 := sched l k ++ List.replicate (64 - k) 0
theorem schedZ_len (l : List UInt8) {k : Nat} (h : k ≤ 64) : (schedZ l k).length = 64 := by
  unfold schedZ
  rw [List.length_append, sched_len, List.length_replicate]; omega
theorem schedZ_get (l : List UInt8) {k i : Nat} (h : i < k) : (schedZ l k).getD i 0 = (sched l k).getD i 0 := by
  unfold schedZ
  rw [List.getD_eq_getElem?_getD, List.getD_eq_getElem?_getD, List.getElem?_append_left (by rw [sched_len]; exact h)]
theorem schedZ_succ (l : List UInt8) {k : Nat} (h : k < 64) (x : W32) (hx : sched l (k + 1) = sched l k ++ [x]) : (schedZ l k).set k x = schedZ l (k + 1) := by
  unfold schedZ
  rw [hx, List.set_append_right _ _ (by rw [sched_len]; exact Nat.le_refl _), sched_len, Nat.sub_self, show 64 - k = (64 - (k + 1)) + 1 by omega, List.replicate_succ, List.set_cons_zero, List.append_assoc]
  rfl
theorem getD_get {l : List W32} {i : Nat} (h : i < l.length) : l[i] = l.getD i 0 := by
  rw [List.getD_eq_getElem?_getD, List.getElem?_eq_getElem h]; rfl
theorem wCells_getD {l : List W32} {i : Nat} (h : i < l.length) : (wCells l)[i]? = some (.int .u32 (iW (l.getD i 0))) := by rw [wCells_get h, getD_get h]
theorem byte_getD (s : ByteArray) (i : Nat) (h : i < s.size) : s[i] = s.data.toList.getD i 0 := by
  rw [List.getD_eq_getElem?_getD, List.getElem?_eq_getElem (by simpa using h)]; rfl
theorem idx_str (s : ByteArray) (j : Nat) (h : j < s.size) (W : World) : (Instr.index 9 (.string s) (.int .i64 (j : Nat))).run Tryz.prog W = .ok (.int .u8 ((s.data.toList.getD j 0).toNat : Int)) W := by
  have e := byte_getD s j h
  have h2 : (j : Int) < (s.size : Int) := by omega
  rw [← e]
  clear e
  go_simp
theorem shl_i (x : W32) (k : Nat) : iW x * (2 ^ k : Nat) % 4294967296 = iW (x <<< k) := by
  rw [iW_nat x, iW_nat, BitVec.toNat_shiftLeft, Nat.shiftLeft_eq]; rfl
theorem shr_i (x : W32) (k : Nat) : iW x / (2 ^ k : Nat) = iW (x >>> k) := by
  rw [iW_nat x, iW_nat, BitVec.toNat_ushiftRight, Nat.shiftRight_eq_div_pow]; rfl
theorem sched_16 (l : List UInt8) {k : Nat} (h : k < 16) : sched l (k + 1) = sched l k ++ [msgW l k] := by
  show sched l k ++ [if k < 16 then _ else _] = _
  rw [if_pos h]
theorem sched_64 (l : List UInt8) {k : Nat} (h : 16 ≤ k) : sched l (k + 1) = sched l k ++ [(sched l k).getD (k - 16) 0 + sA ((sched l k).getD (k - 15) 0) + (sched l k).getD (k - 7) 0 + sB ((sched l k).getD (k - 2) 0)] := by
  show sched l k ++ [if k < 16 then _ else _] = _
  rw [if_neg (by omega)]
theorem or_i (x y : W32) : bits BinOp.or IntKind.u32 (iW x) (iW y) = iW (x ||| y) := by
  rw [iW_nat x, iW_nat y, u32_or_nat _ _ x.isLt y.isLt, iW_nat, BitVec.toNat_or]
theorem xor_i (x y : W32) : bits BinOp.xor IntKind.u32 (iW x) (iW y) = iW (x ^^^ y) := by
  rw [iW_nat x, iW_nat y, u32_xor_nat _ _ x.isLt y.isLt, iW_nat, BitVec.toNat_xor]
theorem and_i (x y : W32) : bits BinOp.and IntKind.u32 (iW x) (iW y) = iW (x &&& y) := by
  rw [iW_nat x, iW_nat y, u32_and_nat _ _ x.isLt y.isLt, iW_nat, BitVec.toNat_and]
theorem be_eq (b0 b1 b2 b3 : UInt8) : bits BinOp.or IntKind.u32 (bits BinOp.or IntKind.u32 (bits BinOp.or IntKind.u32 (iW (b0.toBitVec.setWidth 32) * 16777216 % 4294967296) (iW (b1.toBitVec.setWidth 32) * 65536 % 4294967296)) (iW (b2.toBitVec.setWidth 32) * 256 % 4294967296)) (iW (b3.toBitVec.setWidth 32)) = iW (beW b0 b1 b2 b3) := by
  have s0 : iW (b0.toBitVec.setWidth 32) * (16777216 : Int) % (4294967296 : Int) = iW (b0.toBitVec.setWidth 32 <<< 24) := shl_i _ 24
  have s1 : iW (b1.toBitVec.setWidth 32) * (65536 : Int) % (4294967296 : Int) = iW (b1.toBitVec.setWidth 32 <<< 16) := shl_i _ 16
  have s2 : iW (b2.toBitVec.setWidth 32) * (256 : Int) % (4294967296 : Int) = iW (b2.toBitVec.setWidth 32 <<< 8) := shl_i _ 8
  rw [s0, s1, s2, or_i, or_i, or_i]
  rfl
/-- how a hash lies in memory -/
def hCells (v : V8) (st : List W32) (rest : ByteArray) (n : Int) (b : Bool) : Array Value := wCells (v.toL ++ st) ++ #[.string rest, .int .u64 n, .bool b]

theorem sched_eq (x16 x15 x7 x2 : W32) : (iW x16 + bits BinOp.xor IntKind.u32 (bits BinOp.xor IntKind.u32 (iW (x15.rotateRight 7)) (iW (x15.rotateRight 18))) (iW x15 / 8) + iW x7 + bits BinOp.xor IntKind.u32 (bits BinOp.xor IntKind.u32 (iW (x2.rotateRight 17)) (iW (x2.rotateRight 19))) (iW x2 / 1024)) % 4294967296 = iW (x16 + sA x15 + x7 + sB x2) := by
  have s0 : iW x15 / (8 : Int) = iW (x15 >>> 3) := shr_i _ 3
  have s1 : iW x2 / (1024 : Int) = iW (x2 >>> 10) := shr_i _ 10
  rw [s0, s1, xor_i, xor_i, xor_i, xor_i]
  show _ = iW (x16 + (x15.rotateRight 7 ^^^ x15.rotateRight 18 ^^^ x15 >>> 3) + x7 + (x2.rotateRight 17 ^^^ x2.rotateRight 19 ^^^ x2 >>> 10))
  simp only [iW, BitVec.toNat_add]
  omega
theorem Blk.drewN {w : World} {g : Nat} {t : TypeId} {cs : Array Value} (h : Blk w g t cs) (n : Nat) : Blk (w.drewN n) g t cs := h
theorem Below.drewN {B : Nat} {a w : World} (h : Below B a w) (n : Nat) : Below B a (w.drewN n) := ⟨h.1, h.2, h.3, h.4, h.5⟩
theorem hCells_w {w : World} {g : Nat} {t : TypeId} {v : V8} {st : List W32} {rest : ByteArray} {n : Int} {b : Bool} (h : Blk w g t (hCells v st rest n b)) :
    w.cell? ⟨g, 0, none⟩ = some (.int .u32 (iW v.a)) ∧ w.cell? ⟨g, 1, none⟩ = some (.int .u32 (iW v.b)) ∧ w.cell? ⟨g, 2, none⟩ = some (.int .u32 (iW v.c)) ∧ w.cell? ⟨g, 3, none⟩ = some (.int .u32 (iW v.d)) ∧ w.cell? ⟨g, 4, none⟩ = some (.int .u32 (iW v.e)) ∧ w.cell? ⟨g, 5, none⟩ = some (.int .u32 (iW v.f)) ∧ w.cell? ⟨g, 6, none⟩ = some (.int .u32 (iW v.g)) ∧ w.cell? ⟨g, 7, none⟩ = some (.int .u32 (iW v.h)) := by
  have e : ∀ i, i < 8 → (hCells v st rest n b)[i]? = some (.int .u32 (iW (v.toL.getD i 0))) := by
    intro i hi
    have hl : i < (v.toL ++ st).length := by rw [List.length_append]; show i < 8 + _; omega
    unfold hCells
    rw [Array.getElem?_append_left (by simpa [wCells] using hl), wCells_getD hl, List.getD_eq_getElem?_getD, List.getD_eq_getElem?_getD, List.getElem?_append_left (by show i < 8; exact hi)]
  exact ⟨(h.cell 0).trans (e 0 (by decide)), (h.cell 1).trans (e 1 (by decide)), (h.cell 2).trans (e 2 (by decide)), (h.cell 3).trans (e 3 (by decide)), (h.cell 4).trans (e 4 (by decide)), (h.cell 5).trans (e 5 (by decide)), (h.cell 6).trans (e 6 (by decide)), (h.cell 7).trans (e 7 (by decide))⟩
theorem v8Cells {w : World} {g : Nat} {t : TypeId} {v : V8} (h : Blk w g t (wCells v.toL)) :
    w.cell? ⟨g, 0, none⟩ = some (.int .u32 (iW v.a)) ∧ w.cell? ⟨g, 1, none⟩ = some (.int .u32 (iW v.b)) ∧ w.cell? ⟨g, 2, none⟩ = some (.int .u32 (iW v.c)) ∧ w.cell? ⟨g, 3, none⟩ = some (.int .u32 (iW v.d)) ∧ w.cell? ⟨g, 4, none⟩ = some (.int .u32 (iW v.e)) ∧ w.cell? ⟨g, 5, none⟩ = some (.int .u32 (iW v.f)) ∧ w.cell? ⟨g, 6, none⟩ = some (.int .u32 (iW v.g)) ∧ w.cell? ⟨g, 7, none⟩ = some (.int .u32 (iW v.h)) :=
  ⟨h.cell 0, h.cell 1, h.cell 2, h.cell 3, h.cell 4, h.cell 5, h.cell 6, h.cell 7⟩
theorem hCells_k {w : World} {g : Nat} {t : TypeId} {v : V8} {st : List W32} {rest : ByteArray} {n : Int} {b : Bool} (h : Blk w g t (hCells v st rest n b)) {k : Nat} (hk : k < st.length) : w.cell? ⟨g, 8 + k, none⟩ = some (.int .u32 (iW (st.getD k 0))) := by
  have hl : 8 + k < (v.toL ++ st).length := by rw [List.length_append]; show 8 + k < 8 + _; omega
  have e : (hCells v st rest n b)[8 + k]? = some (.int .u32 (iW (st.getD k 0))) := by
    unfold hCells
    rw [Array.getElem?_append_left (by simpa [wCells] using hl), wCells_getD hl, List.getD_eq_getElem?_getD, List.getD_eq_getElem?_getD, List.getElem?_append_right (by show 8 ≤ 8 + k; omega)]
    show some (Value.int .u32 (iW (st[8 + k - 8]?.getD 0))) = _
    rw [Nat.add_sub_cancel_left]
  exact (h.cell (8 + k)).trans e
theorem not_i (x : W32) : bits BinOp.xor IntKind.u32 IntKind.u32.max (iW x) = iW (~~~x) := by
  have e : IntKind.u32.max = ((4294967295 : Nat) : Int) := by decide
  rw [e, iW_nat x, u32_xor_nat _ _ (by decide) x.isLt, iW_nat, BitVec.toNat_not]
  congr 1
  have h' : x.toNat < 2 ^ 32 := x.isLt
  apply Nat.eq_of_testBit_eq
  intro i
  rw [show (2 ^ 32 - 1 - x.toNat : Nat) = 2 ^ 32 - (x.toNat + 1) by omega, Nat.testBit_two_pow_sub_succ h', Nat.testBit_xor, show (4294967295 : Nat) = 2 ^ 32 - 1 by decide, Nat.testBit_two_pow_sub_one]
  by_cases hi : i < 32
  · simp [hi]
  · have : x.toNat.testBit i = false := Nat.testBit_lt_two_pow (Nat.lt_of_lt_of_le h' (Nat.pow_le_pow_right (n := 2) (by decide) (by omega)))
    simp [hi, this]
theorem stepA (vk : V8) (kk wk : W32) : (iW vk.h + bits BinOp.xor IntKind.u32 (bits BinOp.xor IntKind.u32 (iW (vk.e.rotateRight 6)) (iW (vk.e.rotateRight 11))) (iW (vk.e.rotateRight 25)) + bits BinOp.xor IntKind.u32 (bits BinOp.and IntKind.u32 (iW vk.e) (iW vk.f)) (bits BinOp.and IntKind.u32 (bits BinOp.xor IntKind.u32 IntKind.u32.max (iW vk.e)) (iW vk.g)) + iW kk + iW wk + (bits BinOp.xor IntKind.u32 (bits BinOp.xor IntKind.u32 (iW (vk.a.rotateRight 2)) (iW (vk.a.rotateRight 13))) (iW (vk.a.rotateRight 22)) + bits BinOp.xor IntKind.u32 (bits BinOp.xor IntKind.u32 (bits BinOp.and IntKind.u32 (iW vk.a) (iW vk.b)) (bits BinOp.and IntKind.u32 (iW vk.a) (iW vk.c))) (bits BinOp.and IntKind.u32 (iW vk.b) (iW vk.c)))) % 4294967296 = iW (vk.step kk wk).a := by
  rw [not_i]
  simp only [xor_i, and_i]
  show _ = iW ((vk.h + (vk.e.rotateRight 6 ^^^ vk.e.rotateRight 11 ^^^ vk.e.rotateRight 25) + (vk.e &&& vk.f ^^^ ~~~vk.e &&& vk.g) + kk + wk) + ((vk.a.rotateRight 2 ^^^ vk.a.rotateRight 13 ^^^ vk.a.rotateRight 22) + (vk.a &&& vk.b ^^^ vk.a &&& vk.c ^^^ vk.b &&& vk.c)))
  simp only [iW, BitVec.toNat_add]
  omega
theorem stepE (vk : V8) (kk wk : W32) : (iW vk.d + (iW vk.h + bits BinOp.xor IntKind.u32 (bits BinOp.xor IntKind.u32 (iW (vk.e.rotateRight 6)) (iW (vk.e.rotateRight 11))) (iW (vk.e.rotateRight 25)) + bits BinOp.xor IntKind.u32 (bits BinOp.and IntKind.u32 (iW vk.e) (iW vk.f)) (bits BinOp.and IntKind.u32 (bits BinOp.xor IntKind.u32 IntKind.u32.max (iW vk.e)) (iW vk.g)) + iW kk + iW wk)) % 4294967296 = iW (vk.step kk wk).e := by
  rw [not_i]
  simp only [xor_i, and_i]
  show _ = iW (vk.d + (vk.h + (vk.e.rotateRight 6 ^^^ vk.e.rotateRight 11 ^^^ vk.e.rotateRight 25) + (vk.e &&& vk.f ^^^ ~~~vk.e &&& vk.g) + kk + wk))
  simp only [iW, BitVec.toNat_add]
  omega
theorem set8_arr {α : Type} (c0 c1 c2 c3 c4 c5 c6 c7 v0 v1 v2 v3 v4 v5 v6 v7 : α) : (((((((((#[c0, c1, c2, c3, c4, c5, c6, c7] : Array α).setIfInBounds 0 v0).setIfInBounds 1 v1).setIfInBounds 2 v2).setIfInBounds 3 v3).setIfInBounds 4 v4).setIfInBounds 5 v5).setIfInBounds 6 v6).setIfInBounds 7 v7) = #[v0, v1, v2, v3, v4, v5, v6, v7] := by
  simp only [List.setIfInBounds_toArray, List.set_cons_zero, List.set_cons_succ]
theorem step8 {w : World} {g : Nat} {t : TypeId} {vk : V8} (h : Blk w g t (wCells vk.toL)) (kk wk : W32) :
    Blk ((((((((w.setCell ⟨g, 0, none⟩ (.int .u32 (iW (vk.step kk wk).a))).setCell ⟨g, 1, none⟩ (.int .u32 (iW vk.a))).setCell ⟨g, 2, none⟩ (.int .u32 (iW vk.b))).setCell ⟨g, 3, none⟩ (.int .u32 (iW vk.c))).setCell ⟨g, 4, none⟩ (.int .u32 (iW (vk.step kk wk).e))).setCell ⟨g, 5, none⟩ (.int .u32 (iW vk.e))).setCell ⟨g, 6, none⟩ (.int .u32 (iW vk.f))).setCell ⟨g, 7, none⟩ (.int .u32 (iW vk.g))) g t (wCells (vk.step kk wk).toL) := by
  have := (((((((h.set_ 0 (.int .u32 (iW (vk.step kk wk).a))).set_ 1 (.int .u32 (iW vk.a))).set_ 2 (.int .u32 (iW vk.b))).set_ 3 (.int .u32 (iW vk.c))).set_ 4 (.int .u32 (iW (vk.step kk wk).e))).set_ 5 (.int .u32 (iW vk.e))).set_ 6 (.int .u32 (iW vk.f))).set_ 7 (.int .u32 (iW vk.g))
  have e : wCells vk.toL = #[.int .u32 (iW vk.a), .int .u32 (iW vk.b), .int .u32 (iW vk.c), .int .u32 (iW vk.d), .int .u32 (iW vk.e), .int .u32 (iW vk.f), .int .u32 (iW vk.g), .int .u32 (iW vk.h)] := rfl
  rw [e, set8_arr] at this
  exact this
theorem far8 {w : World} {g k : Nat} {t : TypeId} {cs : Array Value} (h : Blk w k t cs) (hk : k ≠ g) (v0 v1 v2 v3 v4 v5 v6 v7 : Value) :
    Blk ((((((((w.setCell ⟨g, 0, none⟩ v0).setCell ⟨g, 1, none⟩ v1).setCell ⟨g, 2, none⟩ v2).setCell ⟨g, 3, none⟩ v3).setCell ⟨g, 4, none⟩ v4).setCell ⟨g, 5, none⟩ v5).setCell ⟨g, 6, none⟩ v6).setCell ⟨g, 7, none⟩ v7) k t cs :=
  (((((((h.far (p := ⟨g, 0, none⟩) hk v0).far (p := ⟨g, 1, none⟩) hk v1).far (p := ⟨g, 2, none⟩) hk v2).far (p := ⟨g, 3, none⟩) hk v3).far (p := ⟨g, 4, none⟩) hk v4).far (p := ⟨g, 5, none⟩) hk v5).far (p := ⟨g, 6, none⟩) hk v6).far (p := ⟨g, 7, none⟩) hk v7
theorem below8 {B g : Nat} {a w : World} (h : Below B a w) (hg : B ≤ g) (v0 v1 v2 v3 v4 v5 v6 v7 : Value) :
    Below B a ((((((((w.setCell ⟨g, 0, none⟩ v0).setCell ⟨g, 1, none⟩ v1).setCell ⟨g, 2, none⟩ v2).setCell ⟨g, 3, none⟩ v3).setCell ⟨g, 4, none⟩ v4).setCell ⟨g, 5, none⟩ v5).setCell ⟨g, 6, none⟩ v6).setCell ⟨g, 7, none⟩ v7) :=
  (((((((h.setCell (p := ⟨g, 0, none⟩) hg v0).setCell (p := ⟨g, 1, none⟩) hg v1).setCell (p := ⟨g, 2, none⟩) hg v2).setCell (p := ⟨g, 3, none⟩) hg v3).setCell (p := ⟨g, 4, none⟩) hg v4).setCell (p := ⟨g, 5, none⟩) hg v5).setCell (p := ⟨g, 6, none⟩) hg v6).setCell (p := ⟨g, 7, none⟩) hg v7
/-- a hash of any eight words -/
def hCellsL (ws st : List W32) (rest : ByteArray) (n : Int) (b : Bool) : Array Value := wCells (ws ++ st) ++ #[.string rest, .int .u64 n, .bool b]
theorem hCellsL_get {ws st : List W32} {rest : ByteArray} {n : Int} {b : Bool} {k : Nat} (h : k < ws.length) : (hCellsL ws st rest n b)[k]? = some (.int .u32 (iW (ws.getD k 0))) := by
  have hl : k < (ws ++ st).length := by rw [List.length_append]; omega
  unfold hCellsL
  rw [Array.getElem?_append_left (by simpa [wCells] using hl), wCells_getD hl, List.getD_eq_getElem?_getD, List.getD_eq_getElem?_getD, List.getElem?_append_left h]
theorem hCellsL_set {ws st : List W32} {rest : ByteArray} {n : Int} {b : Bool} {k : Nat} (h : k < ws.length) (x : W32) : (hCellsL ws st rest n b).setIfInBounds k (.int .u32 (iW x)) = hCellsL (ws.set k x) st rest n b := by
  have hl : k < (ws ++ st).length := by rw [List.length_append]; omega
  unfold hCellsL
  rw [Array.setIfInBounds_append_left (by simpa [wCells] using hl), wCells_set, List.set_append_left _ _ h]
/-- so many of the eight words added up -/
def addK (x y : V8) (k : Nat) : List W32 := (List.range 8).map fun i => if i < k then x.toL.getD i 0 + y.toL.getD i 0 else x.toL.getD i 0
theorem addK_zero (x y : V8) : addK x y 0 = x.toL := rfl
theorem addK_all (x y : V8) : addK x y 8 = (x.add y).toL := rfl
theorem addK_len (x y : V8) (k : Nat) : (addK x y k).length = 8 := by simp [addK]
theorem addK_get (x y : V8) {k : Nat} (h : k < 8) : (addK x y k).getD k 0 = x.toL.getD k 0 := by
  unfold addK
  rw [List.getD_eq_getElem?_getD, List.getElem?_map, List.getElem?_range h]
  show (if k < k then _ else x.toL.getD k 0) = _
  rw [if_neg (by omega)]
theorem addK_succ (x y : V8) {k : Nat} (h : k < 8) : (addK x y k).set k (x.toL.getD k 0 + y.toL.getD k 0) = addK x y (k + 1) := by
  match k, h with
  | 0, _ | 1, _ | 2, _ | 3, _ | 4, _ | 5, _ | 6, _ | 7, _ => rfl
theorem idx_v8 (v : V8) (k : Nat) (h : k < 8) (w : World) : (Instr.index 149 (.agg #[.int .u32 (iW v.a), .int .u32 (iW v.b), .int .u32 (iW v.c), .int .u32 (iW v.d), .int .u32 (iW v.e), .int .u32 (iW v.f), .int .u32 (iW v.g), .int .u32 (iW v.h)]) (.int .i64 (k : Nat))).run Tryz.prog w = .ok (.int .u32 (iW (v.toL.getD k 0))) w := by
  rcases (by omega : k = 0 ∨ k = 1 ∨ k = 2 ∨ k = 3 ∨ k = 4 ∨ k = 5 ∨ k = 6 ∨ k = 7) with rfl | rfl | rfl | rfl | rfl | rfl | rfl | rfl
  all_goals kernel_rfl
theorem add_i (x y : W32) : (iW x + iW y) % 4294967296 = iW (x + y) := by
  simp only [iW, BitVec.toNat_add]
  omega
theorem grown_drew {a b : World} {r : Option Nat} (h : a.grownBy b r) : a.grownBy b.drew r := ⟨h.os, h.tape, h.output, h.size, h.block⟩
set_option maxRecDepth 100000 in
theorem zero64 : wCells (List.replicate 64 0) = #[Value.int .u32 0, Value.int .u32 0, Value.int .u32 0, Value.int .u32 0, Value.int .u32 0, Value.int .u32 0, Value.int .u32 0, Value.int .u32 0, Value.int .u32 0, Value.int .u32 0, Value.int .u32 0, Value.int .u32 0, Value.int .u32 0, Value.int .u32 0, Value.int .u32 0, Value.int .u32 0, Value.int .u32 0, Value.int .u32 0, Value.int .u32 0, Value.int .u32 0, Value.int .u32 0, Value.int .u32 0, Value.int .u32 0, Value.int .u32 0, Value.int .u32 0, Value.int .u32 0, Value.int .u32 0, Value.int .u32 0, Value.int .u32 0, Value.int .u32 0, Value.int .u32 0, Value.int .u32 0, Value.int .u32 0, Value.int .u32 0, Value.int .u32 0, Value.int .u32 0, Value.int .u32 0, Value.int .u32 0, Value.int .u32 0, Value.int .u32 0, Value.int .u32 0, Value.int .u32 0, Value.int .u32 0, Value.int .u32 0, Value.int .u32 0, Value.int .u32 0, Value.int .u32 0, Value.int .u32 0, Value.int .u32 0, Value.int .u32 0, Value.int .u32 0, Value.int .u32 0, Value.int .u32 0, Value.int .u32 0, Value.int .u32 0, Value.int .u32 0, Value.int .u32 0, Value.int .u32 0, Value.int .u32 0, Value.int .u32 0, Value.int .u32 0, Value.int .u32 0, Value.int .u32 0, Value.int .u32 0] := rfl
set_option maxRecDepth 100000 in
set_option maxHeartbeats 12800000 in
theorem block_any (g : Nat) (v : V8) (rest : ByteArray) (n : Int) (b : Bool) (p : ByteArray) (w : World) (hp : p.size = 64) (hg : Blk w g 152 (hCells v ktab rest n b)) :
    Calls Tryz.prog 120 #[.pointer (some ⟨g, 0, none⟩), .string p] w fun e w' => e = .returned (.tuple #[]) ∧ Blk w' g 152 (hCells (blockF v p.data.toList) ktab rest n b) ∧ w.grownBy w' (some g) := by
  have HG := Lib.hid hg
  clear hg
  go_enter Tryz.func120, Tryz.ntmps120
  go_wp2
  go_loopw [18] (fun i wr => ∃ k : Nat, i = .int .i64 (k : Nat) ∧ k ≤ 16 ∧ Hid (Blk wr w.heap.size 150 (wCells (schedZ p.data.toList k))) ∧ Hid (Below w.heap.size w wr)) (fun i _ => 16 - (intOf i).toNat)
  case atStart =>
    refine ⟨0, rfl, by omega, Lib.hid ?_, Lib.hid ((Below.refl _ w).alloc (Nat.le_refl _) _)⟩
    rw [show schedZ p.data.toList 0 = List.replicate 64 0 from rfl, zero64]
    exact Blk.new w _ _
  case round =>
    obtain ⟨k, rfl, hk, HW, HB⟩ := hrel
    by_cases hlt : k < 16
    · have i0 := idx_str p (4 * k) (by omega)
      have i1 := idx_str p (4 * k + 1) (by omega)
      have i2 := idx_str p (4 * k + 2) (by omega)
      have i3 := idx_str p (4 * k + 3) (by omega)
      rw [show ((4 * k : Nat) : Int) = 4 * (k : Int) by omega] at i0
      rw [show ((4 * k + 1 : Nat) : Int) = 4 * (k : Int) + 1 by omega] at i1
      rw [show ((4 * k + 2 : Nat) : Int) = 4 * (k : Int) + 2 by omega] at i2
      rw [show ((4 * k + 3 : Nat) : Int) = 4 * (k : Int) + 3 by omega] at i3
      have f0 := HW.out.frozen k
      have c0 := (HW.out.cell k).trans (wCells_getD (l := schedZ p.data.toList k) (i := k) (by rw [schedZ_len _ (by omega)]; omega))
      have HM := Lib.hid (show msgW p.data.toList k = beW _ _ _ _ from rfl)
      generalize p.data.toList.getD (4 * k) 0 = b0 at *
      generalize p.data.toList.getD (4 * k + 1) 0 = b1 at *
      generalize p.data.toList.getD (4 * k + 2) 0 = b2 at *
      generalize p.data.toList.getD (4 * k + 3) 0 = b3 at *
      obtain ⟨wo, rfl⟩ : ∃ wo : World, wo = wr := ⟨_, rfl⟩
      go_wp2
      go_region
      rw [be_eq b0 b1 b2 b3]
      have HE := Lib.hid (schedZ_succ p.data.toList (k := k) (by omega) _ (sched_16 _ hlt))
      have HW2 := Lib.hid (Blk.drew (HW.out.set_ k (.int .u32 (iW (beW b0 b1 b2 b3)))))
      have HB2 := Lib.hid (Below.drew (HB.out.setCell (p := ⟨w.heap.size, k, none⟩) (Nat.le_refl _) (.int .u32 (iW (beW b0 b1 b2 b3)))))
      clear i0 i1 i2 i3 c0 f0
      go_wp2
      go_roundw
      case rel =>
        refine ⟨k + 1, by go_num, by omega, Lib.hid ?_, HB2⟩
        have h := HW2.out
        rw [wCells_set] at h
        rw [← HE.out, HM.out]
        exact h
      case measure => simp [intOf]; omega
    · obtain rfl : k = 16 := by omega
      rw [show ((16 : Nat) : Int) = 16 from rfl]
      have hmf := fun (W : World) (x : W32) (n : Nat) (h0 : 0 < n) (hn : n < 32) => rot_any x n W h0 hn
      have HR := Lib.hid hmf
      clear hmf
      obtain ⟨wo, rfl⟩ : ∃ wo : World, wo = wr := ⟨_, rfl⟩
      go_wp2
      go_loopw [7] (fun i wr => ∃ k : Nat, i = .int .i64 (k : Nat) ∧ 16 ≤ k ∧ k ≤ 64 ∧ Hid (Blk wr w.heap.size 150 (wCells (schedZ p.data.toList k))) ∧ Hid (Below w.heap.size w wr)) (fun i _ => 64 - (intOf i).toNat)
      case atStart => exact ⟨16, rfl, by omega, by omega, HW, HB⟩
      case round =>
        clear HW HB
        obtain ⟨k, rfl, hk1, hk2, HW, HB⟩ := hrel
        by_cases hlt : k < 64
        · have hl := schedZ_len p.data.toList (k := k) hk2
          have w15 : IntKind.i64.wrap ((k : Int) - 15) = (k : Int) - 15 := IntWalk.i64_in _ (by omega)
          have w2 : IntKind.i64.wrap ((k : Int) - 2) = (k : Int) - 2 := IntWalk.i64_in _ (by omega)
          have w16 : IntKind.i64.wrap ((k : Int) - 16) = (k : Int) - 16 := IntWalk.i64_in _ (by omega)
          have w7 : IntKind.i64.wrap ((k : Int) - 7) = (k : Int) - 7 := IntWalk.i64_in _ (by omega)
          have g1 : (0 : Int) ≤ (k : Int) - 16 := by omega
          have g2 : (16 : Int) ≤ (k : Int) := by omega
          have g3 : (k : Int) - 16 < 64 := by omega
          have g4 : (0 : Int) ≤ (k : Int) - 7 := by omega
          have g5 : (7 : Int) ≤ (k : Int) := by omega
          have g6 : (k : Int) - 7 < 64 := by omega
          have g7 : (k : Int) < 64 := by omega
          have t15 : ((k : Int) - 15).toNat = k - 15 := by omega
          have t2 : ((k : Int) - 2).toNat = k - 2 := by omega
          have t16 : ((k : Int) - 16).toNat = k - 16 := by omega
          have t7 : ((k : Int) - 7).toNat = k - 7 := by omega
          have c15 := (HW.out.cell (k - 15)).trans (wCells_getD (l := schedZ p.data.toList k) (i := k - 15) (by omega))
          have c2 := (HW.out.cell (k - 2)).trans (wCells_getD (l := schedZ p.data.toList k) (i := k - 2) (by omega))
          have c16 := (HW.out.cell (k - 16)).trans (wCells_getD (l := schedZ p.data.toList k) (i := k - 16) (by omega))
          have c7 := (HW.out.cell (k - 7)).trans (wCells_getD (l := schedZ p.data.toList k) (i := k - 7) (by omega))
          have c0 := (HW.out.cell k).trans (wCells_getD (l := schedZ p.data.toList k) (i := k) (by omega))
          have f0 := HW.out.frozen k
          have HE := Lib.hid (schedZ_succ p.data.toList (k := k) (by omega) _ (sched_64 _ hk1))
          rw [schedZ_get _ (by omega)] at c15 c2 c16 c7
          generalize (sched p.data.toList k).getD (k - 15) 0 = x15 at *
          generalize (sched p.data.toList k).getD (k - 2) 0 = x2 at *
          generalize (sched p.data.toList k).getD (k - 16) 0 = x16 at *
          generalize (sched p.data.toList k).getD (k - 7) 0 = x7 at *
          obtain ⟨wn, rfl⟩ : ∃ wn : World, wn = wr := ⟨_, rfl⟩
          clear hl
          go_wp2
          go_quiet (fail)
          go_wp2
          refine quiet_tail 33 (by kernel_rfl) (by kernel_rfl) ?_
          simp only [List.take_succ_cons, List.take_zero, List.drop_succ_cons, List.drop_zero]
          repeat
            first
              | go_big_quiet_skip
              | (go_big_quiet_want
                 go_big_quiet_op
                 first
                   | go_big_quiet_on
                   | (refine ⟨_, rotG 7 _ _ _ (by decide) (by decide), ?_⟩; go_big_quiet_on)
                   | (refine ⟨_, rotG 18 _ _ _ (by decide) (by decide), ?_⟩; go_big_quiet_on)
                   | (refine ⟨_, rotG 17 _ _ _ (by decide) (by decide), ?_⟩; go_big_quiet_on)
                   | (refine ⟨_, rotG 19 _ _ _ (by decide) (by decide), ?_⟩; go_big_quiet_on))
          refine wpQuiet_nil ?_
          go_wp2
          rw [sched_eq x16 x15 x7 x2]
          have HW2 := Lib.hid (Blk.set_ (Blk.drewN HW.out (nq + 1)) k (.int .u32 (iW (x16 + sA x15 + x7 + sB x2))))
          have HB2 := Lib.hid (Below.setCell (Below.drewN HB.out (nq + 1)) (p := ⟨w.heap.size, k, none⟩) (Nat.le_refl _) (.int .u32 (iW (x16 + sA x15 + x7 + sB x2))))
          clear w15 w2 w16 w7 g1 g2 g3 g4 g5 g6 g7 t15 t2 t16 t7 c15 c2 c16 c7 c0 f0
          go_roundw
          case rel =>
            refine ⟨k + 1, by go_num, by omega, by omega, Lib.hid ?_, HB2⟩
            have h := HW2.out
            rw [wCells_set, HE.out] at h
            exact h
          case measure => simp [intOf]; omega
        · obtain rfl : k = 64 := by omega
          rw [show ((64 : Nat) : Int) = 64 from rfl]
          have HGW := Lib.hid (HG.out.below HB.out HG.out.lt)
          have HWW := Lib.hid (show Blk wr w.heap.size 150 (wCells (sched p.data.toList 64)) from by have := HW.out; unfold schedZ at this; simpa using this)
          obtain ⟨h0, h1, h2, h3, h4, h5, h6, h7⟩ := hCells_w HGW.out
          clear HW
          obtain ⟨wo, rfl⟩ : ∃ wo : World, wo = wr := ⟨_, rfl⟩
          go_wp2
          have HNW := Lib.hid (show w.heap.size ≠ wo.heap.size from fun e => by have := HWW.out.lt; omega)
          have HNG := Lib.hid (show g ≠ wo.heap.size from fun e => by have := HGW.out.lt; omega)
          have HNB := Lib.hid HB.out.size
          go_loopw [102] (fun i wr => ∃ k : Nat, i = .int .i64 (k : Nat) ∧ k ≤ 64 ∧ Hid (Blk wr wo.heap.size 149 (wCells (rounds v (sched p.data.toList 64) k).toL)) ∧ Hid (Blk wr w.heap.size 150 (wCells (sched p.data.toList 64))) ∧ Hid (Blk wr g 152 (hCells v ktab rest n b)) ∧ Hid (Below w.heap.size w wr)) (fun i _ => 64 - (intOf i).toNat)
          case atStart =>
            refine ⟨0, rfl, by omega, Lib.hid ?_, Lib.hid (HWW.out.alloc _), Lib.hid (HGW.out.alloc _), Lib.hid (HB.out.alloc HB.out.size _)⟩
            exact Blk.new wo _ _
          case round =>
            clear h0 h1 h2 h3 h4 h5 h6 h7 HGW HWW HB
            obtain ⟨k, rfl, hk, HV, HW, HGW, HB⟩ := hrel
            by_cases hlt : k < 64
            · have HE := Lib.hid (show rounds v (sched p.data.toList 64) (k + 1) = (rounds v (sched p.data.toList 64) k).step (ktab.getD k 0) ((sched p.data.toList 64).getD k 0) from rfl)
              generalize rounds v (sched p.data.toList 64) k = vk at *
              obtain ⟨h0, h1, h2, h3, h4, h5, h6, h7⟩ := v8Cells HV.out
              have cw := (HW.out.cell k).trans (wCells_getD (l := sched p.data.toList 64) (i := k) (by rw [sched_len]; exact hlt))
              have ck := hCells_k HGW.out (show k < ktab.length from hlt)
              generalize ktab.getD k 0 = kk at *
              generalize (sched p.data.toList 64).getD k 0 = wk at *
              obtain ⟨wn, rfl⟩ : ∃ wn : World, wn = wr := ⟨_, rfl⟩
              have g7 : (k : Int) < 64 := by omega
              have HCW := Lib.hid (show ∀ W, Blk W w.heap.size 150 (wCells (sched p.data.toList 64)) → W.cell? ⟨w.heap.size, k, none⟩ = some (.int .u32 (iW wk)) from fun W hb => (hb.cell k).trans ((HW.out.cell k).symm.trans cw))
              have HCK := Lib.hid (show ∀ W, Blk W g 152 (hCells v ktab rest n b) → W.cell? ⟨g, 8 + k, none⟩ = some (.int .u32 (iW kk)) from fun W hb => (hb.cell (8 + k)).trans ((HGW.out.cell (8 + k)).symm.trans ck))
              clear cw ck
              go_wp2
              go_quiet (fail)
              have HV1 := Lib.hid (Blk.drewN HV.out nq)
              have HW1 := Lib.hid (Blk.drewN HW.out nq)
              have HGW1 := Lib.hid (Blk.drewN HGW.out nq)
              have HB1 := Lib.hid (Below.drewN HB.out nq)
              clear h0 h1 h2 h3 h4 h5 h6 h7 HV HW HGW HB
              generalize wn.drewN nq = wq1 at *
              obtain ⟨h0, h1, h2, h3, h4, h5, h6, h7⟩ := v8Cells HV1.out
              have cw := HCW.out _ HW1.out
              have ck := HCK.out _ HGW1.out
              go_wp2
              go_quiet ((go_at_call 142; first | exact Calls.quiet_of_same (rotG 6 _ _ _ (by decide) (by decide)) | exact Calls.quiet_of_same (rotG 11 _ _ _ (by decide) (by decide)) | exact Calls.quiet_of_same (rotG 25 _ _ _ (by decide) (by decide))))
              clear cw ck HCW HCK
              have HV2 := Lib.hid (Blk.drewN HV1.out nq)
              have HW2 := Lib.hid (Blk.drewN HW1.out nq)
              have HGW2 := Lib.hid (Blk.drewN HGW1.out nq)
              have HB2 := Lib.hid (Below.drewN HB1.out nq)
              clear h0 h1 h2 h3 h4 h5 h6 h7 HV1 HW1 HGW1 HB1
              generalize wq1.drewN nq = wq2 at *
              obtain ⟨h0, h1, h2, h3, h4, h5, h6, h7⟩ := v8Cells HV2.out
              go_wp2
              go_quiet ((go_at_call 142; first | exact Calls.quiet_of_same (rotG 2 _ _ _ (by decide) (by decide)) | exact Calls.quiet_of_same (rotG 13 _ _ _ (by decide) (by decide)) | exact Calls.quiet_of_same (rotG 22 _ _ _ (by decide) (by decide))))
              have HV3 := Lib.hid (Blk.drewN HV2.out nq)
              have HW3 := Lib.hid (Blk.drewN HW2.out nq)
              have HGW3 := Lib.hid (Blk.drewN HGW2.out nq)
              have HB3 := Lib.hid (Below.drewN HB2.out nq)
              clear h0 h1 h2 h3 h4 h5 h6 h7 HV2 HW2 HGW2 HB2
              generalize wq2.drewN nq = wq3 at *
              obtain ⟨h0, h1, h2, h3, h4, h5, h6, h7⟩ := v8Cells HV3.out
              have z0 := HV3.out.frozen 0
              have z1 := HV3.out.frozen 1
              have z2 := HV3.out.frozen 2
              have z3 := HV3.out.frozen 3
              have z4 := HV3.out.frozen 4
              have z5 := HV3.out.frozen 5
              have z6 := HV3.out.frozen 6
              have z7 := HV3.out.frozen 7
              go_wp2
              rw [stepA vk kk wk, stepE vk kk wk]
              have HV4 := Lib.hid (step8 HV3.out kk wk)
              have hlo := HB3.out.size
              have HW4 := Lib.hid (far8 HW3.out HNW.out (.int .u32 (iW (vk.step kk wk).a)) (.int .u32 (iW vk.a)) (.int .u32 (iW vk.b)) (.int .u32 (iW vk.c)) (.int .u32 (iW (vk.step kk wk).e)) (.int .u32 (iW vk.e)) (.int .u32 (iW vk.f)) (.int .u32 (iW vk.g)))
              have HGW4 := Lib.hid (far8 HGW3.out HNG.out (.int .u32 (iW (vk.step kk wk).a)) (.int .u32 (iW vk.a)) (.int .u32 (iW vk.b)) (.int .u32 (iW vk.c)) (.int .u32 (iW (vk.step kk wk).e)) (.int .u32 (iW vk.e)) (.int .u32 (iW vk.f)) (.int .u32 (iW vk.g)))
              have HB4 := Lib.hid (below8 HB3.out HNB.out (.int .u32 (iW (vk.step kk wk).a)) (.int .u32 (iW vk.a)) (.int .u32 (iW vk.b)) (.int .u32 (iW vk.c)) (.int .u32 (iW (vk.step kk wk).e)) (.int .u32 (iW vk.e)) (.int .u32 (iW vk.f)) (.int .u32 (iW vk.g)))
              clear h0 h1 h2 h3 h4 h5 h6 h7 z0 z1 z2 z3 z4 z5 z6 z7 HV3 HW3 HGW3 HB3
              go_roundw
              case rel => exact ⟨k + 1, by go_num, by omega, by rw [HE.out]; exact HV4, HW4, HGW4, HB4⟩
              case measure => simp [intOf]; omega
            · obtain rfl : k = 64 := by omega
              have HBF := Lib.hid (show blockF v p.data.toList = v.add (rounds v (sched p.data.toList 64) 64) from rfl)
              generalize rounds v (sched p.data.toList 64) 64 = vk at *
              obtain ⟨h0, h1, h2, h3, h4, h5, h6, h7⟩ := v8Cells HV.out
              have HGL := Lib.hid (show Blk wr g 152 (hCellsL (addK v vk 0) ktab rest n b) from HGW.out)
              have HBW := Lib.hid (show w.grownBy wr (some g) from ⟨HB.out.os, HB.out.tape, HB.out.output, HB.out.size, fun k hk _ => HB.out.block k hk⟩)
              have HLT := Lib.hid HG.out.lt
              clear HV HW HGW HB
              obtain ⟨wn, rfl⟩ : ∃ wn : World, wn = wr := ⟨_, rfl⟩
              go_wp2
              go_loopw [194] (fun i wr => ∃ k : Nat, i = .int .i64 (k : Nat) ∧ k ≤ 8 ∧ Hid (Blk wr g 152 (hCellsL (addK v vk k) ktab rest n b)) ∧ Hid (w.grownBy wr (some g))) (fun i _ => 8 - (intOf i).toNat)
              case atStart => exact ⟨0, rfl, by omega, HGL, HBW⟩
              case round =>
                clear HGL HBW h0 h1 h2 h3 h4 h5 h6 h7
                obtain ⟨k, rfl, hk, HGL, HBW⟩ := hrel
                by_cases hlt : k < 8
                · have c0 := (HGL.out.cell k).trans (hCellsL_get (ws := addK v vk k) (by rw [addK_len]; exact hlt))
                  rw [addK_get v vk hlt] at c0
                  have f0 := HGL.out.frozen k
                  have ix := idx_v8 vk k hlt
                  have HS := Lib.hid (addK_succ v vk hlt)
                  have g7 : (k : Int) < 8 := by omega
                  generalize v.toL.getD k 0 = xa at *
                  generalize vk.toL.getD k 0 = xb at *
                  obtain ⟨wm, rfl⟩ : ∃ wm : World, wm = wr := ⟨_, rfl⟩
                  go_wp2
                  go_region
                  rw [add_i xa xb]
                  have HG2 := Lib.hid (Blk.drew (HGL.out.set_ k (.int .u32 (iW (xa + xb)))))
                  have HB2 := Lib.hid (HBW.out.trans (grown_drew (Only.set g k wm (.int .u32 (iW (xa + xb)))).grown))
                  clear c0 f0 ix
                  go_wp2
                  go_roundw
                  case rel =>
                    refine ⟨k + 1, by go_num, by omega, Lib.hid ?_, HB2⟩
                    have h := HG2.out
                    rw [hCellsL_set (by rw [addK_len]; exact hlt), HS.out] at h
                    exact h
                  case measure => simp [intOf]; omega
                · obtain rfl : k = 8 := by omega
                  have HGF := Lib.hid (show Blk wr g 152 (hCells (blockF v p.data.toList) ktab rest n b) from by
                    have := HGL.out
                    rw [addK_all, ← HBF.out] at this
                    exact this)
                  go_wp2
                  go_end0
                  exact ⟨rfl, HGF.out, HBW.out⟩
end Go.Proofs.YtpeepdkeicgkiaaGreatDoor
namespace Go.Proofs.YtpeepdkeicgkiaaGreatDoor
set_option linter.unusedVariables false
set_option linter.unusedSimpArgs false
set_option linter.unusedSectionVars false
open Go.RowKit

theorem ba_take64 (s : ByteArray) : (s.extract 0 64).data.toList = s.data.toList.take 64 := Lib.extract_from_zero s 64
theorem blocksN_snoc (v : V8) (l : List UInt8) (k : Nat) : blocksN v l (k + 1) = blockF (blocksN v l k) ((l.drop (64 * k)).take 64) := rfl
/-- a hash as it is made -/
def freshC : Array Value := hCellsL (List.replicate 8 0) (List.replicate 64 0) ByteArray.empty 0 false
theorem hCellsL_st {ws st : List W32} {rest : ByteArray} {n : Int} {b : Bool} {k : Nat} (hw : ws.length = 8) (h : k < st.length) : (hCellsL ws st rest n b)[8 + k]? = some (.int .u32 (iW (st.getD k 0))) := by
  have hl : 8 + k < (ws ++ st).length := by rw [List.length_append]; omega
  unfold hCellsL
  rw [Array.getElem?_append_left (by simpa [wCells] using hl), wCells_getD hl, List.getD_eq_getElem?_getD, List.getD_eq_getElem?_getD, List.getElem?_append_right (by omega), hw, Nat.add_sub_cancel_left]
theorem hCellsL_setst {ws st : List W32} {rest : ByteArray} {n : Int} {b : Bool} {k : Nat} (hw : ws.length = 8) (h : k < st.length) (x : W32) : (hCellsL ws st rest n b).setIfInBounds (8 + k) (.int .u32 (iW x)) = hCellsL ws (st.set k x) rest n b := by
  have hl : 8 + k < (ws ++ st).length := by rw [List.length_append]; omega
  unfold hCellsL
  rw [Array.setIfInBounds_append_left (by simpa [wCells] using hl), wCells_set, List.set_append_right _ _ (by omega), hw, Nat.add_sub_cancel_left]
theorem hTail {ws st : List W32} {rest : ByteArray} {n : Int} {b : Bool} (hw : ws.length = 8) (hs : st.length = 64) :
    (hCellsL ws st rest n b)[72]? = some (.string rest) ∧ (hCellsL ws st rest n b)[73]? = some (.int .u64 n) ∧ (hCellsL ws st rest n b)[74]? = some (.bool b) := by
  have hz : (wCells (ws ++ st)).size = 72 := by simp [wCells, hw, hs]
  unfold hCellsL
  refine ⟨?_, ?_, ?_⟩
  all_goals rw [Array.getElem?_append_right (by omega), hz]; rfl
theorem hSet72 {ws st : List W32} {rest r2 : ByteArray} {n : Int} {b : Bool} (hw : ws.length = 8) (hs : st.length = 64) : (hCellsL ws st rest n b).setIfInBounds 72 (.string r2) = hCellsL ws st r2 n b := by
  have hz : (wCells (ws ++ st)).size = 72 := by simp [wCells, hw, hs]
  unfold hCellsL
  rw [Array.setIfInBounds_append_right (by omega), hz]
  rfl
theorem hSet73 {ws st : List W32} {rest : ByteArray} {n m : Int} {b : Bool} (hw : ws.length = 8) (hs : st.length = 64) : (hCellsL ws st rest n b).setIfInBounds 73 (.int .u64 m) = hCellsL ws st rest m b := by
  have hz : (wCells (ws ++ st)).size = 72 := by simp [wCells, hw, hs]
  unfold hCellsL
  rw [Array.setIfInBounds_append_right (by omega), hz]
  rfl
theorem hSet74 {ws st : List W32} {rest : ByteArray} {n : Int} {b c : Bool} (hw : ws.length = 8) (hs : st.length = 64) : (hCellsL ws st rest n b).setIfInBounds 74 (.bool c) = hCellsL ws st rest n c := by
  have hz : (wCells (ws ++ st)).size = 72 := by simp [wCells, hw, hs]
  unfold hCellsL
  rw [Array.setIfInBounds_append_right (by omega), hz]
  rfl
/-- the words and steps behind k primes -/
def stepK (k : Nat) : List W32 := ktab.take k ++ List.replicate (64 - k) 0
def wordK (k : Nat) : List W32 := htab.toL.take k ++ List.replicate (8 - k) 0
theorem root_step : ∀ k : Fin 64, rootF (primes64.getD k.val 0) true = ktab.getD k.val 0 := by
  intro k
  have h := ktab_is
  have : (primes64.map (rootF · true)).getD k.val 0 = ktab.getD k.val 0 := by rw [h]
  rw [← this, List.getD_eq_getElem?_getD, List.getD_eq_getElem?_getD, List.getElem?_map]
  rw [List.getElem?_eq_getElem (show k.val < primes64.length from k.isLt)]
  rfl
theorem root_word : ∀ k : Fin 8, rootF (primes64.getD k.val 0) false = htab.toL.getD k.val 0 := by
  intro k
  have h := htab_is
  have : ((primes64.take 8).map (rootF · false)).getD k.val 0 = htab.toL.getD k.val 0 := by rw [h]
  rw [← this, List.getD_eq_getElem?_getD, List.getD_eq_getElem?_getD, List.getElem?_map, List.getElem?_take_of_lt k.isLt]
  rw [List.getElem?_eq_getElem (show k.val < primes64.length from Nat.lt_trans k.isLt (by decide))]
  rfl
theorem stepK_set : ∀ k : Fin 64, (stepK k.val).set k.val (ktab.getD k.val 0) = stepK (k.val + 1) := by decide +kernel
theorem wordK_set : ∀ k : Fin 8, (wordK k.val).set k.val (htab.toL.getD k.val 0) = wordK (k.val + 1) := by decide +kernel
theorem stepK_len {k : Nat} (h : k ≤ 64) : (stepK k).length = 64 := by
  unfold stepK
  rw [List.length_append, List.length_take, List.length_replicate]
  show min k 64 + _ = _
  omega
theorem wordK_len {k : Nat} (h : k ≤ 8) : (wordK k).length = 8 := by
  unfold wordK
  rw [List.length_append, List.length_take, List.length_replicate]
  show min k 8 + _ = _
  omega
end Go.Proofs.YtpeepdkeicgkiaaGreatDoor
