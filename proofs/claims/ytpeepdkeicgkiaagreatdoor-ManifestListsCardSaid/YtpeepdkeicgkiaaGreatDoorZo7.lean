/- Maps with string keys, their content as a list of keys and values in rising order; what a call may touch. The disk: what lies in memory, and what each call of it does. A range over a map with string keys. The disk's state: plain data, and how it lies in memory. -/
import Derived.Test.YtpeepdkeicgkiaaGreatDoorZo1
import Derived.Maps.OwnOps
import Derived.Maps.OwnSet
import Derived.Maps.RangeWalk
namespace Go.Proofs.YtpeepdkeicgkiaaGreatDoor
set_option linter.unusedVariables false
set_option linter.unusedSimpArgs false
set_option linter.unusedSectionVars false
open Go.RowKit Go.Maps

/-- how a value reads: as itself -/
def heldR : Value → Option (DataW Value × List MemPlace) := fun v => some (.held v, [])

section
variable {α β : Type}
def kvGet (l : List (ByteArray × α)) (k : ByteArray) : Option α := (l.find? fun p => decide (p.1 = k)).map (·.2)
def kvDel (l : List (ByteArray × α)) (k : ByteArray) : List (ByteArray × α) := l.filter fun p => decide (p.1 ≠ k)
def kvIns (x : ByteArray × α) : List (ByteArray × α) → List (ByteArray × α)
  | [] => [x]
  | y :: r => if bytesBefore x.1.data.toList y.1.data.toList then x :: y :: r else y :: kvIns x r
def kvPut (l : List (ByteArray × α)) (k : ByteArray) (v : α) : List (ByteArray × α) := kvIns (k, v) (kvDel l k)
def kvMap (f : α → β) (l : List (ByteArray × α)) : List (ByteArray × β) := l.map fun p => (p.1, f p.2)

theorem kvGet_map (f : α → β) (l : List (ByteArray × α)) (k : ByteArray) : kvGet (kvMap f l) k = (kvGet l k).map f := by
  simp [kvGet, kvMap, List.find?_map, Function.comp_def]
theorem kvDel_map (f : α → β) (l : List (ByteArray × α)) (k : ByteArray) : kvDel (kvMap f l) k = kvMap f (kvDel l k) := by
  simp [kvDel, kvMap, List.filter_map, Function.comp_def]
theorem kvIns_map (f : α → β) (x : ByteArray × α) (l : List (ByteArray × α)) : kvIns (x.1, f x.2) (kvMap f l) = kvMap f (kvIns x l) := by
  induction l with
  | nil => rfl
  | cons y r ih =>
    simp only [kvMap, List.map_cons, kvIns] at ih ⊢
    split
    · simp
    · simp [ih]
theorem kvPut_map (f : α → β) (l : List (ByteArray × α)) (k : ByteArray) (v : α) : kvPut (kvMap f l) k (f v) = kvMap f (kvPut l k v) := by
  unfold kvPut; rw [kvDel_map]; exact kvIns_map f (k, v) (kvDel l k)
theorem kvMap_len (f : α → β) (l : List (ByteArray × α)) : (kvMap f l).length = l.length := by simp [kvMap]
end

def toD (l : List (ByteArray × Value)) : DataW Value := .map (l.map fun p => (Lit.string p.1.data.toList, .held p.2))

theorem ba_eq {a b : ByteArray} : a.data.toList = b.data.toList ↔ a = b := by
  constructor
  · intro h
    exact ByteArray.ext (Array.toList_inj.1 h)
  · rintro rfl; rfl
theorem key_same (p : ByteArray) (k : ByteArray) : (Lit.string p.data.toList).sameKey (.string k.data.toList) = decide (p = k) := by
  simp only [Lit.sameKey]
  rw [Bool.eq_iff_iff]
  simp only [beq_iff_eq, decide_eq_true_eq]
  exact ba_eq

theorem toD_has (l : List (ByteArray × Value)) (k : ByteArray) : Maps.has (toD l) (.string k.data.toList) = (kvGet l k).isSome := by
  simp only [Maps.has, toD, kvGet, List.any_map, Function.comp_def, key_same]
  induction l with
  | nil => rfl
  | cons x r ih =>
    simp only [List.any_cons, List.find?_cons]
    cases h : decide (x.1 = k) <;> simp [ih]

theorem toD_at (l : List (ByteArray × Value)) (k : ByteArray) (z : Value) : (toD l).atKey (.string k.data.toList) (.held z) = .held ((kvGet l k).getD z) := by
  simp only [DataW.atKey, toD, kvGet, List.find?_map, Function.comp_def, key_same]
  cases l.find? (fun p => decide (p.1 = k)) <;> rfl

theorem toD_del (l : List (ByteArray × Value)) (k : ByteArray) : (toD l).del (.string k.data.toList) = toD (kvDel l k) := by
  simp only [DataW.del, toD, kvDel, List.filter_map, Function.comp_def, key_same]
  simp

theorem insert_pos {H : Type} (x y : Lit × DataW H) (r : List (Lit × DataW H)) (h : x.1.before y.1 = true) : DataW.insert x (y :: r) = x :: y :: r := by
  rw [DataW.insert, if_pos h]
theorem insert_neg {H : Type} (x y : Lit × DataW H) (r : List (Lit × DataW H)) (h : x.1.before y.1 = false) : DataW.insert x (y :: r) = y :: DataW.insert x r := by
  rw [DataW.insert, if_neg (by simp [h])]
theorem toD_ins (x : ByteArray × Value) (l : List (ByteArray × Value)) :
    DataW.insert (Lit.string x.1.data.toList, DataW.held x.2) (l.map fun p => (Lit.string p.1.data.toList, DataW.held p.2)) = (kvIns x l).map fun p => (Lit.string p.1.data.toList, DataW.held p.2) := by
  induction l with
  | nil => rfl
  | cons y r ih =>
    cases h : bytesBefore x.1.data.toList y.1.data.toList with
    | true => rw [kvIns, if_pos h]; exact insert_pos _ _ _ h
    | false =>
      rw [kvIns, if_neg (by simp [h]), List.map_cons, List.map_cons, ← ih]
      exact insert_neg _ _ _ h

theorem toD_put (l : List (ByteArray × Value)) (k : ByteArray) (v : Value) : (toD l).put (.string k.data.toList) (.held v) = toD (kvPut l k v) := by
  have h := toD_del l k
  simp only [DataW.del, toD, DataW.map.injEq] at h
  simp only [DataW.put, toD, kvPut]
  rw [h]
  exact congrArg DataW.map (toD_ins (k, v) (kvDel l k))

/-- Block b is a map with string keys that holds just l. -/
def ownsKV (w : World) (P : Program) (k : TypeId) (b : Nat) (l : List (ByteArray × Value)) : Prop := w.ownsMap P k heldR b l.length (toD l)

theorem ownsKV_of {w : World} {P : Program} {k : TypeId} {b n : Nat} {l : List (ByteArray × Value)} (h : w.ownsMap P k heldR b n (toD l)) : ownsKV w P k b l := by
  obtain ⟨es, clock, hb, F, hs, hD⟩ := h
  refine ⟨es, clock, hb, F, ?_, hD⟩
  have := congrArg Maps.size hD
  simp [Maps.size, toD, length_sorted] at this
  omega

theorem ownsKV_made (w : World) (P : Program) (k : TypeId) : ownsKV (w.alloc (.map #[] 0)) P k w.heap.size [] := World.ownsMap_made w P k heldR

theorem ownsKV_block {w w' : World} {P : Program} {k : TypeId} {b : Nat} {l : List (ByteArray × Value)} (h : ownsKV w P k b l) (he : w'.heap[b]? = w.heap[b]?) : ownsKV w' P k b l := by
  obtain ⟨es, clock, hb, F⟩ := h
  exact ⟨es, clock, he.trans hb, F⟩

theorem ownsKV_lt {w : World} {P : Program} {k : TypeId} {b : Nat} {l : List (ByteArray × Value)} (h : ownsKV w P k b l) : b < w.heap.size := h.lt

section
variable {P : Program} {w : World} {ops : Array Oper} {rest : List Oper} {o : Oper} {a : Act} {Q : Exit → Act → World → Prop}

theorem wpList_kvFound (hg : o.guard = none) (m x : Operand) (t : TypeId) (hop : o.op = Op.lookup t m x true)
    {k e : TypeId} (hk : P.underlying k = some .string) (ht : P.underlying t = some (.map k e)) {z : Value} (hz : (zeroValue e).run P w = .ok z w) {b : Nat} {l : List (ByteArray × Value)}
    (hm : a.eval m = .map (some b)) (hown : ownsKV w P k b l) {s : ByteArray} (hx : a.eval x = .string s) (hs : s.size ≤ maxLen) {v : Value} (hv : kvGet l s = some v)
    (hK : wpList P ops Q rest (a.put o.dst (.tuple #[v, .bool true])) w) :
    wpList P ops Q (o :: rest) a w := by
  refine wpList_lookup_own_ok w hg m x t hop k e (string_keyed hk) ht heldR hz (.held z) [] rfl b l.length (toD l) hm hown _ _ hx (WideMaps.keyOf_string_mk hk hs) ?_
  intro u ps hu
  rw [toD_at, hv] at hu
  rw [toD_has, hv]
  simp [heldR] at hu
  obtain ⟨rfl, _⟩ := hu
  exact hK

theorem wpList_kvNone (hg : o.guard = none) (m x : Operand) (t : TypeId) (hop : o.op = Op.lookup t m x true)
    {k e : TypeId} (hk : P.underlying k = some .string) (ht : P.underlying t = some (.map k e)) {z : Value} (hz : (zeroValue e).run P w = .ok z w) {b : Nat} {l : List (ByteArray × Value)}
    (hm : a.eval m = .map (some b)) (hown : ownsKV w P k b l) {s : ByteArray} (hx : a.eval x = .string s) (hs : s.size ≤ maxLen) (hv : kvGet l s = none)
    (hK : wpList P ops Q rest (a.put o.dst (.tuple #[z, .bool false])) w) :
    wpList P ops Q (o :: rest) a w := by
  refine wpList_lookup_own_ok w hg m x t hop k e (string_keyed hk) ht heldR hz (.held z) [] rfl b l.length (toD l) hm hown _ _ hx (WideMaps.keyOf_string_mk hk hs) ?_
  intro u ps hu
  rw [toD_at, hv] at hu
  rw [toD_has, hv]
  simp [heldR] at hu
  obtain ⟨rfl, _⟩ := hu
  exact hK

theorem wpList_kvStore (hg : o.guard = none) (m x v : Operand) (t : TypeId) (hop : o.op = Op.mapUpdate t m x v)
    {k e : TypeId} (hk : P.underlying k = some .string) (ht : P.underlying t = some (.map k e)) {b : Nat} {l : List (ByteArray × Value)}
    (hm : a.eval m = .map (some b)) (hown : ownsKV w P k b l) (hn : l.length < 1099511627776) {s : ByteArray} {u : Value} (hx : a.eval x = .string s) (hs : s.size ≤ maxLen) (hv : a.eval v = u)
    (hK : ∀ w', ownsKV w' P k b (kvPut l s u) → w.mapTurned w' b → wpList P ops Q rest (a.put o.dst undef) w') :
    wpList P ops Q (o :: rest) a w := by
  refine wpList_mapUpdate_in w hg m x v t hop k e (string_keyed hk) ht heldR b l.length (toD l) hm hown (by unfold maxLen; omega) _ _ _ hx hv (WideMaps.keyOf_string_mk hk hs) (.held u) [] rfl ?_
  intro w' h1 h2
  rw [toD_put] at h1
  exact hK w' (ownsKV_of h1) h2

theorem wpList_kvDelete (hg : o.guard = none) (m x : Operand) (t k : TypeId) (hop : o.op = Op.call { callee := Callee.builtin Builtin.delete, args := #[m, x], argTypes := #[t, k] })
    {e : TypeId} (hk : P.underlying k = some .string) (ht : P.underlying t = some (.map k e)) {b : Nat} {l : List (ByteArray × Value)}
    (hm : a.eval m = .map (some b)) (hown : ownsKV w P k b l) {s : ByteArray} (hx : a.eval x = .string s) (hs : s.size ≤ maxLen)
    (hK : ∀ w', ownsKV w' P k b (kvDel l s) → w.mapTurned w' b → wpList P ops Q rest (a.put o.dst (.tuple #[])) w') :
    wpList P ops Q (o :: rest) a w := by
  refine wpList_delete_own w hg m x t k hop e (string_keyed hk) ht heldR b l.length (toD l) hm hown _ _ hx (WideMaps.keyOf_string_mk hk hs) ?_
  intro w' h1 h2
  rw [toD_del] at h1
  exact hK w' (ownsKV_of h1) h2
end

/-- What is not of F is as it was; what is new is new. -/
structure Touch (F : Nat → Prop) (w w' : World) : Prop where
  os : w'.os = w.os
  tape : w'.tape = w.tape
  output : w'.output = w.output
  size : w.heap.size ≤ w'.heap.size
  block : ∀ k, k < w.heap.size → ¬ F k → w'.heap[k]? = w.heap[k]?

theorem Touch.refl (F : Nat → Prop) (w : World) : Touch F w w := ⟨rfl, rfl, rfl, Nat.le_refl _, fun _ _ _ => rfl⟩
theorem Touch.trans {F G : Nat → Prop} {a b c : World} (h : Touch F a b) (k : Touch G b c) (hs : ∀ i, i < a.heap.size → G i → F i) : Touch F a c :=
  ⟨k.os.trans h.os, k.tape.trans h.tape, k.output.trans h.output, Nat.le_trans h.size k.size,
    fun i hi hf => (k.block i (Nat.lt_of_lt_of_le hi h.size) (fun g => hf (hs i hi g))).trans (h.block i hi hf)⟩
theorem Touch.mono {F G : Nat → Prop} {a b : World} (h : Touch F a b) (hs : ∀ i, i < a.heap.size → F i → G i) : Touch G a b :=
  ⟨h.os, h.tape, h.output, h.size, fun i hi hf => h.block i hi (fun g => hf (hs i hi g))⟩
theorem Touch.of_below {w w' : World} (F : Nat → Prop) (h : Below w.heap.size w w') : Touch F w w' := ⟨h.os, h.tape, h.output, h.size, fun k hk _ => h.block k hk⟩
theorem Touch.below {F : Nat → Prop} {B : Nat} {w w' : World} (h : Touch F w w') (hB : B ≤ w.heap.size) (hF : ∀ k, k < B → ¬ F k) : Below B w w' := ⟨h.os, h.tape, h.output, h.size, fun k hk => h.block k (by omega) (hF k hk)⟩
theorem Touch.of_turned {w w' : World} {b : Nat} (h : w.mapTurned w' b) : Touch (· = b) w w' :=
  let g := h.grown
  ⟨g.os, g.tape, g.output, g.size, fun k hk hn => g.block k hk (fun e => hn (Option.some.inj e))⟩
theorem Touch.of_grown {w w' : World} {row : Option Nat} (h : w.grownBy w' row) : Touch (fun k => row = some k) w w' :=
  ⟨h.os, h.tape, h.output, h.size, fun k hk hn => h.block k hk (fun e => hn e.symm)⟩
theorem Touch.setCell (w : World) (p : Addr) (u : Value) : Touch (· = p.block) w (w.setCell p u) :=
  ⟨rfl, rfl, rfl, by simp [World.setCell], fun k _ hn => Below.heap_setCell _ _ _ _ hn⟩
theorem Touch.setc (w : World) (b i : Nat) (u : Value) : Touch (· = b) w (w.setCell ⟨b, i, none⟩ u) := Touch.setCell w ⟨b, i, none⟩ u
theorem Touch.alloc (F : Nat → Prop) (w : World) (o : Obj) : Touch F w (w.alloc o) := Touch.of_below F ((Below.refl _ w).alloc (Nat.le_refl _) o)
theorem Touch.cell {F : Nat → Prop} {w w' : World} (h : Touch F w w') {p : Addr} (hp : p.block < w.heap.size) (hf : ¬ F p.block) : w'.cell? p = w.cell? p := World.cell?_of_block (w := w) (h.block p.block hp hf)
theorem Touch.frozen {F : Nat → Prop} {w w' : World} (h : Touch F w w') {p : Addr} (hp : p.block < w.heap.size) (hf : ¬ F p.block) : w'.frozen? p = w.frozen? p := World.frozen?_of_block (w := w) (h.block p.block hp hf)

end Go.Proofs.YtpeepdkeicgkiaaGreatDoor
namespace Go.Proofs.YtpeepdkeicgkiaaGreatDoor
set_option linter.unusedVariables false
set_option linter.unusedSimpArgs false
set_option linter.unusedSectionVars false
open Go.RowKit Go.Maps

def BlockIs (w : World) (b : Nat) (cs : Array Value) (t : TypeId) : Prop := w.heap[b]? = some (.cells cs t (0, 0))
theorem BlockIs.cell {w : World} {b : Nat} {cs : Array Value} {t : TypeId} (h : BlockIs w b cs t) (i : Nat) : w.cell? ⟨b, i, none⟩ = cs[i]? := by
  unfold BlockIs at h; simp [World.cell?, h]
theorem BlockIs.free {w : World} {b : Nat} {cs : Array Value} {t : TypeId} (h : BlockIs w b cs t) (i : Nat) : w.frozen? ⟨b, i, none⟩ = false := by
  unfold BlockIs at h; simp [World.frozen?, h]
theorem BlockIs.set {w : World} {b : Nat} {cs : Array Value} {t : TypeId} (h : BlockIs w b cs t) (i : Nat) (v : Value) : BlockIs (w.setCell ⟨b, i, none⟩ v) b (cs.setIfInBounds i v) t := by
  unfold BlockIs at h ⊢; simp [World.setCell, Array.getElem?_modify, h]
theorem BlockIs.keep {w w' : World} {b : Nat} {cs : Array Value} {t : TypeId} (h : BlockIs w b cs t) (he : w'.heap[b]? = w.heap[b]?) : BlockIs w' b cs t := he.trans h
theorem BlockIs.lt {w : World} {b : Nat} {cs : Array Value} {t : TypeId} (h : BlockIs w b cs t) : b < w.heap.size := (Array.getElem?_eq_some_iff.1 h).1
theorem BlockIs.new (w : World) (cs : Array Value) (t : TypeId) : BlockIs (w.alloc (.cells cs t)) w.heap.size cs t := (MapKept.heap_alloc w _).1

def dkCells (room : Int) (bm bs : Nat) (v : Value) (arm : Int) (dead : Bool) : Array Value := #[.int .i64 room, .map (some bm), .map (some bs), v, .int .i64 arm, .bool dead]

/-- the disk's count-down: the number that is left, dead or not -/
def armNext (arm : Int) (dead : Bool) : Int × Bool := if arm = 0 then (-1, true) else if 0 < arm then (arm - 1, dead) else (arm, dead)

set_option maxRecDepth 100000 in
set_option maxHeartbeats 400000 in
theorem alive_any (b : Nat) (room : Int) (bm bs : Nat) (v : Value) (arm : Int) (dead : Bool) (w : World) (h : BlockIs w b (dkCells room bm bs v arm dead) 72) (ha : -1 ≤ arm ∧ arm ≤ 9223372036854775807) :
    Calls Tryz.prog 86 #[.pointer (some ⟨b, 0, none⟩)] w fun e w' => e = .returned (.bool (!(armNext arm dead).2)) ∧
      BlockIs w' b (dkCells room bm bs v (armNext arm dead).1 (armNext arm dead).2) 72 ∧ Touch (· = b) w w' := by
  have c4 : w.cell? ⟨b, 4, none⟩ = some (.int .i64 arm) := h.cell 4
  have c5 : w.cell? ⟨b, 5, none⟩ = some (.bool dead) := h.cell 5
  have f4 : w.frozen? ⟨b, 4, none⟩ = false := h.free 4
  have f5 : w.frozen? ⟨b, 5, none⟩ = false := h.free 5
  have H := Lib.hid h
  clear h
  rcases Int.lt_trichotomy arm 0 with h0 | h0 | h0
  · have e : armNext arm dead = (arm, dead) := by unfold armNext; rw [if_neg (by omega), if_neg (by omega)]
    have E := Lib.hid e
    clear e
    go_enter Tryz.func86, Tryz.ntmps86
    go_wp2
    go_ret
    rw [E.out]
    exact ⟨rfl, H.out, Touch.refl _ _⟩
  · subst h0
    go_enter Tryz.func86, Tryz.ntmps86
    go_wp2
    go_ret
    exact ⟨rfl, (H.out.set 5 (.bool true)).set 4 (.int .i64 (-1)), (Touch.setc _ _ _ _).trans (Touch.setc _ _ _ _) (fun _ _ h => h)⟩
  · have e : armNext arm dead = (arm - 1, dead) := by unfold armNext; rw [if_neg (by omega), if_pos h0]
    have E := Lib.hid e
    clear e
    go_enter Tryz.func86, Tryz.ntmps86
    go_wp2
    go_ret
    rw [E.out]
    exact ⟨rfl, H.out.set 4 (.int .i64 (arm - 1)), Touch.setc _ _ _ _⟩

def nameByte (c : UInt8) : Bool := decide (32 < c.toNat) && decide (c.toNat ≤ 126) && decide (c.toNat ≠ 47)
theorem nameByte_yes {c : UInt8} (h : 32 < (c.toNat : Int) ∧ (c.toNat : Int) ≤ 126 ∧ (c.toNat : Int) ≠ 47) : nameByte c = true := by simp [nameByte]; omega
theorem nameByte_no {c : UInt8} (h : (c.toNat : Int) ≤ 32 ∨ 126 < (c.toNat : Int) ∨ (c.toNat : Int) = 47) : nameByte c = false := by simp [nameByte]; omega
/-- may a file be called so? -/
def dkName (s : ByteArray) : Bool := s.data.toList.all nameByte && decide (0 < s.size) && decide (s.size ≤ 80)

set_option maxRecDepth 100000 in
set_option maxHeartbeats 400000 in
theorem name_any (s : ByteArray) (w : World) (hs : s.size ≤ 9223372036854775807) :
    Calls Tryz.prog 93 #[.string s] w fun e w' => e = .returned (.bool (dkName s)) ∧ Below w.heap.size w w' := by
  obtain ⟨cap, w1, hcv, hb, hz, hcell⟩ := bytes_of_string (P := Tryz.prog) w 9 76 5 s Tryz.underlying9 Tryz.underlying76 Tryz.underlying5
  have Hcell := Lib.hid hcell
  clear hcell
  go_enter Tryz.func93, Tryz.ntmps93
  go_wp2
  go_loop [8] (fun i => ∃ k : Nat, k ≤ s.size ∧ i = .int .i64 k ∧ (s.data.toList.take k).all nameByte = true) (fun i => s.size - (intOf i).toNat)
  case atStart => exact ⟨0, Nat.zero_le _, rfl, rfl⟩
  case round =>
    obtain ⟨k, hk, rfl, hall⟩ := hrel
    have Hall := Lib.hid hall
    clear hall
    by_cases hlt : k < s.size
    · have hc := Hcell.out k hlt
      have Hf : nameByte s[k] = false → dkName s = false := by
        intro h; unfold dkName; rw [ba_all_false s k hlt h]; rfl
      have Hs := ba_all_snoc (p := nameByte) s k hlt Hall.out
      generalize s[k] = c at hc Hf Hs
      have HF := Lib.hid Hf
      have HS := Lib.hid Hs
      clear Hf Hs
      rcases (by omega : (c.toNat : Int) ≤ 32 ∨ (32 < (c.toNat : Int) ∧ 126 < (c.toNat : Int)) ∨ (c.toNat : Int) = 47 ∨ (32 < (c.toNat : Int) ∧ (c.toNat : Int) ≤ 126 ∧ (c.toNat : Int) ≠ 47)) with h1 | ⟨h1, h2⟩ | h1 | ⟨h1, h2, h3⟩
      · go_wp2
        go_ret
        exact ⟨ret_bool (HF.out (nameByte_no (by omega))).symm, hb⟩
      · go_wp2
        go_ret
        exact ⟨ret_bool (HF.out (nameByte_no (by omega))).symm, hb⟩
      · have h1' := Lib.hid h1
        go_wp2
        go_ret
        exact ⟨ret_bool (HF.out (nameByte_no (by have := h1'.out; omega))).symm, hb⟩
      · have h4 : ((c.toNat : Int) == 47) = false := by simp; omega
        go_wp2
        go_round
        case rel => exact ⟨k + 1, by omega, by go_num, HS.out (nameByte_yes (by omega))⟩
        case measure => simp [intOf]; omega
    · obtain rfl : k = s.size := by omega
      have e : dkName s = (!s.toList.isEmpty && decide ((s.size : Int) ≤ 80)) := by
        unfold dkName
        have ha := Hall.out
        rw [ba_take_all] at ha
        rw [ha, toList_isEmpty]
        rw [Bool.eq_iff_iff]
        simp only [Bool.true_and, Bool.and_eq_true, decide_eq_true_eq, Bool.not_eq_true', decide_eq_false_iff_not]
        omega
      have E := Lib.hid e
      clear e
      by_cases h0 : s.toList = []
      · go_wp2
        go_ret
        exact ⟨ret_bool (by rw [E.out, h0]; rfl), hb⟩
      · go_wp2
        go_ret
        exact ⟨ret_bool E.out.symm, hb⟩
end Go.Proofs.YtpeepdkeicgkiaaGreatDoor
namespace Go.Proofs.YtpeepdkeicgkiaaGreatDoor
set_option linter.unusedVariables false
set_option linter.unusedSimpArgs false
set_option linter.unusedSectionVars false
open Go.RowKit Go.Maps

/-- a loop over block b's map l is under way: todo is still to come (cnt entries) -/
def rangesKV (w : World) (P : Program) (k : TypeId) (b r : Nat) (l todo : List (ByteArray × Value)) (cnt : Nat) : Prop :=
  ∃ left, w.ranges P k heldR b r l.length (toD l) left cnt ∧ todo = l.filter fun p => left (.string p.1.data.toList)

/-- no key twice -/
def kvApart {α : Type} (l : List (ByteArray × α)) : Prop := l.Pairwise fun p q => p.1 ≠ q.1

theorem ownsKV_apart {w : World} {P : Program} {k : TypeId} {b : Nat} {l : List (ByteArray × Value)} (hk : P.underlying k = some .string) (h : ownsKV w P k b l) : kvApart l := by
  obtain ⟨es, hes, hp, _⟩ := World.ownsMap.entries h (string_keyed hk)
  simp only [toD, DataW.map.injEq] at hes
  subst hes
  rw [List.pairwise_map] at hp
  exact hp.imp fun {p q} h e => h (by rw [e])

theorem kvGet_mem {α : Type} {l : List (ByteArray × α)} {k : ByteArray} {v : α} (h : kvGet l k = some v) : (k, v) ∈ l := by
  unfold kvGet at h
  cases hf : l.find? (fun p => decide (p.1 = k)) with
  | none => simp [hf] at h
  | some p =>
    have h1 := List.mem_of_find?_eq_some hf
    have h2 := List.find?_some hf
    simp [hf] at h h2
    subst h h2
    exact h1

theorem kvGet_of_mem {α : Type} {l : List (ByteArray × α)} {k : ByteArray} {v : α} (ha : kvApart l) (h : (k, v) ∈ l) : kvGet l k = some v := by
  induction l with
  | nil => cases h
  | cons x r ih =>
    unfold kvGet
    rw [List.find?_cons]
    have ha' := List.pairwise_cons.1 ha
    rcases List.mem_cons.1 h with e | e
    · subst e; simp
    · have : x.1 ≠ k := ha'.1 _ e
      simp [this]
      simpa [kvGet] using ih ha'.2 e

section
variable {P : Program} {w : World} {ops : Array Oper} {rest : List Oper} {o : Oper} {a : Act} {Q : Exit → Act → World → Prop}

theorem wpList_kvRange (hg : o.guard = none) (m : Operand) (t : TypeId) (hop : o.op = Op.range t m) {k e : TypeId} (hk : P.underlying k = some .string) (ht : P.underlying t = some (.map k e)) {b : Nat} {l : List (ByteArray × Value)}
    (hm : a.eval m = .map (some b)) (hown : ownsKV w P k b l)
    (hK : ∀ w' cnt, rangesKV w' P k b w.heap.size l l cnt → Below w.heap.size w w' → w'.heap.size = w.heap.size + 1 → wpList P ops Q rest (a.put o.dst (.pointer (some ⟨w.heap.size, 0, none⟩))) w') :
    wpList P ops Q (o :: rest) a w := by
  refine wpList_range_own w hg m t hop k e (string_keyed hk) ht heldR b l.length (toD l) hm hown ?_
  intro w' h1 h2 h3
  refine hK w' _ ⟨_, h1, ?_⟩ ⟨h2.os, h2.tape, h2.output, h2.size, fun i hi => h2.block i hi (by simp)⟩ h3
  symm
  rw [List.filter_eq_self]
  intro p hp
  simp only [Maps.has, toD, List.any_map, Function.comp_def, key_same]
  exact List.any_eq_true.2 ⟨p, hp, by simp⟩

theorem wpList_kvNext (hg : o.guard = none) (it : Operand) (hop : o.op = Op.next it false) {k : TypeId} (hk : P.underlying k = some .string) {b r : Nat} {l todo : List (ByteArray × Value)} {cnt : Nat}
    (hit : a.eval it = .pointer (some ⟨r, 0, none⟩)) (h : rangesKV w P k b r l todo cnt)
    (hDone : todo = [] → wpList P ops Q rest (a.put o.dst (.tuple #[.bool false])) w)
    (hMore : ∀ (s : ByteArray) (v : Value) (w' : World) (cnt' : Nat), (s, v) ∈ todo → s.size ≤ maxLen → rangesKV w' P k b r l (kvDel todo s) cnt' → cnt' < cnt →
      w.grownBy w' (some r) → w'.heap.size = w.heap.size → (Instr.entry (.pointer (some ⟨r, 0, none⟩))).run P w' = .ok (.tuple #[.string s, v]) w' → wpList P ops Q rest (a.put o.dst (.tuple #[.bool true, .string s, v])) w') :
    wpList P ops Q (o :: rest) a w := by
  obtain ⟨left, hr, rfl⟩ := h
  refine wpList_next_ranges (α := ByteArray) (β := Value) w hg it hop k (string_keyed hk) heldR (fun s => .string s) id (fun key kl hkey => ?_) (fun v y _ => ⟨v, rfl⟩) b r l.length (toD l) left cnt hit hr ?_ ?_
  · cases key <;> simp [keyOf, hk, mapKey] at hkey
    exact ⟨_, rfl⟩
  · intro _ hl
    exact hDone (by rw [List.filter_eq_nil_iff]; intro p _; simp [hl])
  · intro s v kl y w' cnt' hkey hlk hv hat hrg hlt hgr hsz hen
    have hkl : kl = .string s.data.toList ∧ s.size ≤ maxLen := by
      simp [keyOf, hk, mapKey] at hkey
      exact ⟨hkey.2.symm, hkey.1⟩
    obtain ⟨rfl, hsl⟩ := hkl
    have hget : kvGet l s = some v := by
      have h1 := hat (.held (.bool true))
      have h2 := hat (.held (.bool false))
      rw [toD_at] at h1 h2
      simp [heldR] at hv
      subst hv
      cases hg : kvGet l s with
      | none => simp [hg] at h1 h2; rw [← h1] at h2; cases h2
      | some u => simp [hg] at h1; rw [h1]
    refine hMore s v w' cnt' ?_ hsl ⟨_, hrg, ?_⟩ hlt hgr hsz hen
    · exact List.mem_filter.2 ⟨kvGet_mem hget, hlk⟩
    · simp only [kvDel, List.filter_filter, key_same]
      refine List.filter_congr fun p _ => ?_
      simp [Bool.and_comm]
end

theorem rangesKV.size {w : World} {P : Program} {k : TypeId} {b r : Nat} {l todo : List (ByteArray × Value)} {cnt : Nat} (h : rangesKV w P k b r l todo cnt) : w.rangeLeft b r = cnt := by
  obtain ⟨left, hr, _⟩ := h; exact hr.left_eq
theorem rangesKV.owns {w : World} {P : Program} {k : TypeId} {b r : Nat} {l todo : List (ByteArray × Value)} {cnt : Nat} (h : rangesKV w P k b r l todo cnt) : ownsKV w P k b l := by
  obtain ⟨left, hr, _⟩ := h; exact hr.owns
theorem rangesKV.keep {w w' : World} {P : Program} {k : TypeId} {b r : Nat} {l todo : List (ByteArray × Value)} {cnt : Nat} (h : rangesKV w P k b r l todo cnt) (h1 : w'.heap[b]? = w.heap[b]?) (h2 : w'.heap[r]? = w.heap[r]?) : rangesKV w' P k b r l todo cnt := by
  obtain ⟨left, ⟨es, clock, since, seen, c0, hb, F, hs, hD, hr, rest⟩, ht⟩ := h
  exact ⟨left, ⟨es, clock, since, seen, c0, h1.trans hb, F, hs, hD, h2.trans hr, rest⟩, ht⟩

theorem rangesKV.sub {w : World} {P : Program} {k : TypeId} {b r : Nat} {l todo : List (ByteArray × Value)} {cnt : Nat} (h : rangesKV w P k b r l todo cnt) : ∀ p ∈ todo, p ∈ l := by
  obtain ⟨left, _, rfl⟩ := h; exact fun p hp => (List.mem_filter.1 hp).1
theorem rangesKV.apart {w : World} {P : Program} {k : TypeId} {b r : Nat} {l todo : List (ByteArray × Value)} {cnt : Nat} (h : rangesKV w P k b r l todo cnt) (ha : kvApart l) : kvApart todo := by
  obtain ⟨left, _, rfl⟩ := h; exact ha.filter _

/-- what a sum over a list loses with one entry -/
def kvSum {α : Type} (f : α → Nat) (l : List (ByteArray × α)) : Nat := (l.map fun p => f p.2).sum
theorem kvDel_noop {α : Type} {l : List (ByteArray × α)} {k : ByteArray} (h : ∀ p ∈ l, p.1 ≠ k) : kvDel l k = l := by
  unfold kvDel; rw [List.filter_eq_self]; intro p hp; simp [h p hp]
theorem kvSum_del {α : Type} (f : α → Nat) {l : List (ByteArray × α)} {k : ByteArray} {v : α} (ha : kvApart l) (h : (k, v) ∈ l) : kvSum f l = f v + kvSum f (kvDel l k) := by
  induction l with
  | nil => cases h
  | cons x r ih =>
    have ha' := List.pairwise_cons.1 ha
    rcases List.mem_cons.1 h with e | e
    · subst e
      have : kvDel ((k, v) :: r) k = r := by
        have := kvDel_noop (l := r) (k := k) (fun p hp => (ha'.1 p hp).symm)
        simpa [kvDel] using this
      rw [this]; simp [kvSum]
    · have hx : x.1 ≠ k := ha'.1 _ e
      have hd : kvDel (x :: r) k = x :: kvDel r k := by simp [kvDel, hx]
      rw [hd]
      have := ih ha'.2 e
      simp only [kvSum, List.map_cons, List.sum_cons] at this ⊢
      omega
theorem kvApart_del {α : Type} {l : List (ByteArray × α)} (k : ByteArray) (h : kvApart l) : kvApart (kvDel l k) := h.filter _
theorem kvApart_map {α β : Type} {f : α → β} {l : List (ByteArray × α)} : kvApart (kvMap f l) ↔ kvApart l := by
  unfold kvApart kvMap; rw [List.pairwise_map]

theorem kvIns_perm {α : Type} (x : ByteArray × α) (l : List (ByteArray × α)) : (kvIns x l).Perm (x :: l) := by
  induction l with
  | nil => exact List.Perm.refl _
  | cons y r ih =>
    unfold kvIns
    split
    · exact List.Perm.refl _
    · exact (List.Perm.cons y ih).trans (List.Perm.swap x y r)
theorem kvDel_no {α : Type} {l : List (ByteArray × α)} {k : ByteArray} : ∀ p ∈ kvDel l k, p.1 ≠ k := by
  intro p hp
  have := (List.mem_filter.1 hp).2
  simpa using this
theorem kvPut_perm {α : Type} (l : List (ByteArray × α)) (k : ByteArray) (v : α) : (kvPut l k v).Perm ((k, v) :: kvDel l k) := kvIns_perm _ _
theorem kvPut_mem {α : Type} {l : List (ByteArray × α)} {k : ByteArray} {v : α} {p : ByteArray × α} (h : p ∈ kvPut l k v) : p = (k, v) ∨ p ∈ l := by
  rcases List.mem_cons.1 ((kvPut_perm l k v).mem_iff.1 h) with h | h
  · exact Or.inl h
  · exact Or.inr (List.mem_filter.1 h).1
theorem kvDel_mem {α : Type} {l : List (ByteArray × α)} {k : ByteArray} {p : ByteArray × α} (h : p ∈ kvDel l k) : p ∈ l := (List.mem_filter.1 h).1
theorem kvDel_len {α : Type} (l : List (ByteArray × α)) (k : ByteArray) : (kvDel l k).length ≤ l.length := List.length_filter_le _ _
theorem kvPut_len {α : Type} (l : List (ByteArray × α)) (k : ByteArray) (v : α) : (kvPut l k v).length ≤ l.length + 1 := by
  rw [(kvPut_perm l k v).length_eq]; simp; exact kvDel_len l k
theorem kvApart_put {α : Type} {l : List (ByteArray × α)} (k : ByteArray) (v : α) (h : kvApart l) : kvApart (kvPut l k v) := by
  unfold kvApart
  refine ((kvPut_perm l k v).pairwise_iff (fun {_ _} h => Ne.symm h)).2 (List.pairwise_cons.2 ⟨fun p hp => (kvDel_no p hp).symm, kvApart_del k h⟩)
theorem kvMap_congr {α β : Type} {f g : α → β} {l : List (ByteArray × α)} (h : ∀ p ∈ l, f p.2 = g p.2) : kvMap f l = kvMap g l := by
  unfold kvMap; exact List.map_congr_left fun p hp => by rw [h p hp]
theorem kvDel_len_lt {α : Type} {l : List (ByteArray × α)} {k : ByteArray} {v : α} (h : kvGet l k = some v) : (kvDel l k).length + 1 ≤ l.length := by
  have hm := kvGet_mem h
  clear h
  induction l with
  | nil => cases hm
  | cons x r ih =>
    by_cases e : x.1 = k
    · have : kvDel (x :: r) k = kvDel r k := by simp [kvDel, e]
      rw [this]; simp; exact kvDel_len r k
    · have hd : kvDel (x :: r) k = x :: kvDel r k := by simp [kvDel, e]
      rw [hd]; simp
      rcases List.mem_cons.1 hm with e' | e'
      · exact absurd (by rw [← e']) e
      · exact ih e'
end Go.Proofs.YtpeepdkeicgkiaaGreatDoor
namespace Go.Proofs.YtpeepdkeicgkiaaGreatDoor
set_option linter.unusedVariables false
set_option linter.unusedSimpArgs false
set_option linter.unusedSectionVars false
open Go.RowKit Go.Maps

structure Fl where
  data : ByteArray
  safe : Nat
structure Sp where
  kind : Int
  src : ByteArray
  dst : ByteArray
  id : Nat
structure Dk where
  room : Int
  files : List Fl
  folder : List (ByteArray × Nat)
  sure : List (ByteArray × Nat)
  steps : List Sp
  arm : Int
  dead : Bool
/-- where it lies: the maps' blocks, the steps' slice, the files' blocks -/
structure Lay where
  bm : Nat
  sm : Nat
  v : Value
  bs : List Nat

def ptrV (b : Nat) : Value := .pointer (some ⟨b, 0, none⟩)
def fileV (bs : List Nat) (i : Nat) : Value := ptrV (bs.getD i 0)
def flCells (f : Fl) : Array Value := #[.string f.data, .int .i64 f.safe]
def stepCells (bs : List Nat) (s : Sp) : List Value := [.int .i64 s.kind, .string s.src, .string s.dst, fileV bs s.id]
def Dk.flAt (D : Dk) (i : Nat) : Fl := D.files.getD i ⟨ByteArray.empty, 0⟩

/-- ids are ids of files; names and bytes are no longer than may be -/
structure DkOk (D : Dk) : Prop where
  fol : ∀ p ∈ D.folder, p.2 < D.files.length
  sur : ∀ p ∈ D.sure, p.2 < D.files.length
  stp : ∀ s ∈ D.steps, s.id < D.files.length ∧ s.src.size ≤ 80 ∧ s.dst.size ≤ 80
  fap : kvApart D.folder
  sap : kvApart D.sure
  fln : D.folder.length ≤ D.files.length
  sln : D.sure.length ≤ D.files.length
  dat : ∀ f ∈ D.files, f.data.size ≤ 1073741824 ∧ f.safe ≤ f.data.size
  arm : -1 ≤ D.arm ∧ D.arm ≤ 9223372036854775807
  rm : 0 ≤ D.room ∧ D.room ≤ 1073741824
  nam : ∀ p ∈ D.folder, p.1.size ≤ 80
  snm : ∀ p ∈ D.sure, p.1.size ≤ 80

def foot (b : Nat) (L : Lay) : List Nat := b :: L.bm :: L.sm :: (L.v.ownBlock.toList ++ L.bs)

structure DiskAt (w : World) (b : Nat) (D : Dk) (L : Lay) : Prop where
  blk : BlockIs w b (dkCells D.room L.bm L.sm L.v D.arm D.dead) 72
  mp : ownsKV w Tryz.prog 9 L.bm (kvMap (fileV L.bs) D.folder)
  sf : ownsKV w Tryz.prog 9 L.sm (kvMap (fileV L.bs) D.sure)
  st : w.ownsRow 0 93 4 L.v D.steps.length (D.steps.flatMap (stepCells L.bs))
  len : L.bs.length = D.files.length
  fs : ∀ i, i < D.files.length → BlockIs w (L.bs.getD i 0) (flCells (D.flAt i)) 101
  nd : (foot b L).Nodup
  ok : DkOk D

theorem ownsRow_keep {w w' : World} {base : Nat} {e : TypeId} {size n : Nat} {v : Value} {xs : List Value} (h : w.ownsRow base e size v n xs) (hk : ∀ k, v.ownBlock = some k → w'.heap[k]? = w.heap[k]?) : w'.ownsRow base e size v n xs := by
  obtain ⟨h1, h2⟩ := h
  refine ⟨h1, ?_⟩
  rcases h2 with h2 | ⟨g, cap, cur, hv, hg, hh, r⟩
  · exact Or.inl h2
  · exact Or.inr ⟨g, cap, cur, hv, hg, by rw [hk g (by rw [hv]; rfl)]; exact hh, r⟩
theorem ownsRow_lt {w : World} {base : Nat} {e : TypeId} {size n : Nat} {v : Value} {xs : List Value} (h : w.ownsRow base e size v n xs) {k : Nat} (hk : v.ownBlock = some k) : base ≤ k ∧ k < w.heap.size := by
  obtain ⟨_, h2 | ⟨g, cap, cur, hv, hg, hh, _⟩⟩ := h
  · rw [h2.1] at hk; simp [Value.ownBlock] at hk
  · rw [hv] at hk
    simp [Value.ownBlock] at hk
    subst hk
    exact ⟨hg, (Array.getElem?_eq_some_iff.1 hh).1⟩

theorem DiskAt.flt {w : World} {b : Nat} {D : Dk} {L : Lay} (h : DiskAt w b D L) : ∀ k ∈ foot b L, k < w.heap.size := by
  intro k hk
  simp only [foot, List.mem_cons, List.mem_append, Option.mem_toList] at hk
  rcases hk with rfl | rfl | rfl | hk | hk
  · exact h.blk.lt
  · exact ownsKV_lt h.mp
  · exact ownsKV_lt h.sf
  · exact (ownsRow_lt h.st hk).2
  · obtain ⟨i, hi, rfl⟩ := List.getElem_of_mem hk
    have := (h.fs i (by rw [← h.len]; exact hi)).lt
    simpa [List.getD, List.getElem?_eq_getElem hi] using this

theorem DiskAt.keepB {w w' : World} {b : Nat} {D : Dk} {L : Lay} (h : DiskAt w b D L) (hk : ∀ k ∈ foot b L, w'.heap[k]? = w.heap[k]?) : DiskAt w' b D L where
  blk := h.blk.keep (hk b (by simp [foot]))
  mp := ownsKV_block h.mp (hk _ (by simp [foot]))
  sf := ownsKV_block h.sf (hk _ (by simp [foot]))
  st := ownsRow_keep h.st fun k hv => hk k (by simp [foot, hv])
  len := h.len
  fs := fun i hi => (h.fs i hi).keep (hk _ (by
    have hi' : i < L.bs.length := by rw [h.len]; exact hi
    simp [foot, List.getD, List.getElem?_eq_getElem hi']))
  nd := h.nd
  ok := h.ok

theorem DiskAt.keep {w w' : World} {b : Nat} {D : Dk} {L : Lay} {G : Nat → Prop} (h : DiskAt w b D L) (ht : Touch G w w') (hG : ∀ k ∈ foot b L, ¬ G k) : DiskAt w' b D L :=
  h.keepB fun k hk => ht.block k (h.flt k hk) (hG k hk)
theorem DiskAt.below {w w' : World} {b : Nat} {D : Dk} {L : Lay} (h : DiskAt w b D L) (ht : Below w.heap.size w w') : DiskAt w' b D L :=
  h.keepB fun k hk => ht.block k (h.flt k hk)

/-- all files' bytes -/
def Dk.used (D : Dk) : Nat := kvSum (fun i => (D.flAt i).data.size) D.folder

theorem kvSum_le {α : Type} (f : α → Nat) (l : List (ByteArray × α)) (m : Nat) (h : ∀ p ∈ l, f p.2 ≤ m) : kvSum f l ≤ l.length * m := by
  induction l with
  | nil => simp [kvSum]
  | cons x r ih =>
    have h1 := h x (by simp)
    have h2 := ih (fun p hp => h p (by simp [hp]))
    simp only [kvSum, List.map_cons, List.sum_cons, List.length_cons] at h2 ⊢
    rw [Nat.succ_mul]; omega
theorem flAt_le {D : Dk} (h : DkOk D) (i : Nat) : (D.flAt i).data.size ≤ 1073741824 ∧ (D.flAt i).safe ≤ (D.flAt i).data.size := by
  unfold Dk.flAt List.getD
  cases hf : D.files[i]? with
  | none => simp
  | some f => exact h.dat f (List.mem_of_getElem? hf)

theorem zero_ptr (w : World) : (zeroValue 91).run Tryz.prog w = .ok (.pointer none) w := by kernel_rfl

/-- how long the file is that a pointer leads to -/
def szV (w : World) (v : Value) : Nat := match v with
  | .pointer (some a) => match w.cell? a with
    | some (.string s) => s.size
    | _ => 0
  | _ => 0
theorem szV_file {w : World} {b : Nat} {D : Dk} {L : Lay} (h : DiskAt w b D L) {i : Nat} (hi : i < D.files.length) : szV w (fileV L.bs i) = (D.flAt i).data.size := by
  have hc := (h.fs i hi).cell 0
  simp only [flCells] at hc
  simp only [szV, fileV, ptrV]
  rw [hc]; rfl
theorem used_szV {w : World} {b : Nat} {D : Dk} {L : Lay} (h : DiskAt w b D L) : kvSum (szV w) (kvMap (fileV L.bs) D.folder) = D.used := by
  unfold kvSum Dk.used kvSum kvMap
  rw [List.map_map]
  congr 1
  exact List.map_congr_left fun p hp => szV_file h (h.ok.fol p hp)
theorem used_le {D : Dk} (h : DkOk D) (hn : D.files.length ≤ 1048576) : D.used ≤ 1125899906842624 := by
  have h1 := kvSum_le (fun i => (D.flAt i).data.size) D.folder 1073741824 (fun p _ => (flAt_le h p.2).1)
  have h2 := h.fln
  have h3 : D.folder.length * 1073741824 ≤ 1048576 * 1073741824 := Nat.mul_le_mul_right _ (by omega)
  unfold Dk.used
  omega

set_option maxRecDepth 100000 in
set_option maxHeartbeats 400000 in
theorem used_any (b : Nat) (D : Dk) (L : Lay) (w : World) (h : DiskAt w b D L) (hn : D.files.length ≤ 1048576) :
    Calls Tryz.prog 94 #[.pointer (some ⟨b, 0, none⟩)] w fun e w' => e = .returned (.int .i64 D.used) ∧ Below w.heap.size w w' := by
  have c1 : w.cell? ⟨b, 1, none⟩ = some (.map (some L.bm)) := h.blk.cell 1
  have hmp := h.mp
  have hul := used_le h.ok hn
  have H := Lib.hid h
  clear h
  go_enter Tryz.func94, Tryz.ntmps94
  go_wp2_with (first | (at_range; refine wpList_kvRange rfl _ 69 rfl Tryz.underlying9 Tryz.underlying69 rfl hmp ?_; intro w0 cnt0 hr0 hb0 hs0) | go_in)
  go_frame
  go_loopw [3] (fun n wr => ∃ (t : Nat) (todo : List (ByteArray × Value)) (cnt : Nat), n = .int .i64 t ∧ t ≤ D.used ∧ t + kvSum (szV w) todo = D.used ∧ rangesKV wr Tryz.prog 9 L.bm w.heap.size (kvMap (fileV L.bs) D.folder) todo cnt ∧ Below w.heap.size w wr) (fun _ wr => wr.rangeLeft L.bm w.heap.size)
  case atStart => exact ⟨0, _, _, rfl, Nat.zero_le _, by rw [Nat.zero_add]; exact used_szV H.out, hr0, hb0⟩
  case round =>
    obtain ⟨t, todo, cnt, rfl, htu, hsum, hrg, hb⟩ := hrel
    have Hsum := Lib.hid hsum
    clear hsum
    go_wp2_with (first | (at_next; refine wpList_kvNext rfl _ rfl Tryz.underlying9 rfl hrg ?_ ?_) | go_in)
    · intro htodo
      have Ht := Lib.hid htodo
      clear htodo
      go_wp2
      go_ret
      refine ⟨ret_int ?_, hb⟩
      have := Hsum.out
      rw [Ht.out] at this
      simp [kvSum] at this
      rw [this]
    · intro s v w' cnt' hmem hsl hrg' hlt hgr hsz hen
      obtain ⟨p, hp, hpv⟩ := List.mem_map.1 (hrg.sub _ hmem)
      simp only [Prod.mk.injEq] at hpv
      obtain ⟨hp1, rfl⟩ := hpv
      have hi := H.out.ok.fol p hp
      have hapart : kvApart todo := hrg.apart (kvApart_map.2 H.out.ok.fap)
      have hdel := kvSum_del (szV w) hapart hmem
      rw [szV_file H.out hi] at hdel
      have hblk : BlockIs w' (L.bs.getD p.2 0) (flCells (D.flAt p.2)) 101 := by
        have h1 := H.out.fs p.2 hi
        refine h1.keep ?_
        rw [hgr.block _ (Nat.lt_of_lt_of_le h1.lt hb.size) (fun e => Nat.lt_irrefl _ (Option.some.inj e ▸ h1.lt)), hb.block _ h1.lt]
      have hc : w'.cell? ⟨L.bs.getD p.2 0, 0, none⟩ = some (.string (D.flAt p.2).data) := hblk.cell 0
      have hb' : Below w.heap.size w w' := hb.grown hgr hb.size (by simp)
      have hz := (flAt_le H.out.ok p.2).1
      have hs2 := Hsum.out
      have hle : t + (D.flAt p.2).data.size ≤ D.used := by omega
      have HD := Lib.hid hdel
      have HP := Lib.hid hp1
      clear hdel hs2 hp1
      unfold fileV ptrV at hen ⊢
      generalize L.bs.getD p.2 0 = c at hc hen hblk ⊢
      go_wp2
      go_roundw
      case rel =>
        refine ⟨t + (D.flAt p.2).data.size, _, cnt', by go_num, hle, ?_, hrg', hb'⟩
        have h1 := Hsum.out
        have h2 := HD.out
        omega
      case measure => rw [hrg'.size, hrg.size]; exact hlt
end Go.Proofs.YtpeepdkeicgkiaaGreatDoor
