/- Maps with string keys, their content as a list of keys and values in rising order; what a call may touch. -/
import Derived.Test.YtaoejgnfoecpfaaDoorKit
import Derived.Maps.OwnOps
import Derived.Maps.OwnSet
namespace Go.Proofs.YtaoejgnfoecpfaaDoor
open Go.RowKit Go.Maps

/-- how a value reads: as itself -/
def heldR : Value → Option (DataW Value × List MemPlace) := fun v => some (.held v, [])

section
variable {α β : Type}
def kvGet (l : List (ByteArray × α)) (k : ByteArray) : Option α := (l.find? fun p => decide (p.1 = k)).map (·.2)
def kvDel (l : List (ByteArray × α)) (k : ByteArray) : List (ByteArray × α) := l.filter fun p => decide (p.1 ≠ k)
def kvIns (x : ByteArray × α) : List (ByteArray × α) → List (ByteArray × α)
  | [] => [x]
  | y :: r => if bytesBefore x.1.data.toList y.1.data.toList then x :: y :: r else y :: kvIns x r
def kvPut (l : List (ByteArray × α)) (k : ByteArray) (v : α) : List (ByteArray × α) := kvIns (k, v) (kvDel l k)
def kvMap (f : α → β) (l : List (ByteArray × α)) : List (ByteArray × β) := l.map fun p => (p.1, f p.2)

theorem kvGet_map (f : α → β) (l : List (ByteArray × α)) (k : ByteArray) : kvGet (kvMap f l) k = (kvGet l k).map f := by
  simp [kvGet, kvMap, List.find?_map, Function.comp_def]
theorem kvDel_map (f : α → β) (l : List (ByteArray × α)) (k : ByteArray) : kvDel (kvMap f l) k = kvMap f (kvDel l k) := by
  simp [kvDel, kvMap, List.filter_map, Function.comp_def]
theorem kvIns_map (f : α → β) (x : ByteArray × α) (l : List (ByteArray × α)) : kvIns (x.1, f x.2) (kvMap f l) = kvMap f (kvIns x l) := by
  induction l with
  | nil => rfl
  | cons y r ih =>
    simp only [kvMap, List.map_cons, kvIns] at ih ⊢
    split
    · simp
    · simp [ih]
theorem kvPut_map (f : α → β) (l : List (ByteArray × α)) (k : ByteArray) (v : α) : kvPut (kvMap f l) k (f v) = kvMap f (kvPut l k v) := by
  unfold kvPut; rw [kvDel_map]; exact kvIns_map f (k, v) (kvDel l k)
theorem kvMap_len (f : α → β) (l : List (ByteArray × α)) : (kvMap f l).length = l.length := by simp [kvMap]
end

def toD (l : List (ByteArray × Value)) : DataW Value := .map (l.map fun p => (Lit.string p.1.data.toList, .held p.2))

theorem ba_eq {a b : ByteArray} : a.data.toList = b.data.toList ↔ a = b := by
  constructor
  · intro h
    exact ByteArray.ext (Array.toList_inj.1 h)
  · rintro rfl; rfl
theorem key_same (p : ByteArray) (k : ByteArray) : (Lit.string p.data.toList).sameKey (.string k.data.toList) = decide (p = k) := by
  simp only [Lit.sameKey]
  rw [Bool.eq_iff_iff]
  simp only [beq_iff_eq, decide_eq_true_eq]
  exact ba_eq

theorem toD_has (l : List (ByteArray × Value)) (k : ByteArray) : Maps.has (toD l) (.string k.data.toList) = (kvGet l k).isSome := by
  simp only [Maps.has, toD, kvGet, List.any_map, Function.comp_def, key_same]
  induction l with
  | nil => rfl
  | cons x r ih =>
    simp only [List.any_cons, List.find?_cons]
    cases h : decide (x.1 = k) <;> simp [ih]

theorem toD_at (l : List (ByteArray × Value)) (k : ByteArray) (z : Value) : (toD l).atKey (.string k.data.toList) (.held z) = .held ((kvGet l k).getD z) := by
  simp only [DataW.atKey, toD, kvGet, List.find?_map, Function.comp_def, key_same]
  cases l.find? (fun p => decide (p.1 = k)) <;> rfl

theorem toD_del (l : List (ByteArray × Value)) (k : ByteArray) : (toD l).del (.string k.data.toList) = toD (kvDel l k) := by
  simp only [DataW.del, toD, kvDel, List.filter_map, Function.comp_def, key_same]
  simp

theorem insert_pos {H : Type} (x y : Lit × DataW H) (r : List (Lit × DataW H)) (h : x.1.before y.1 = true) : DataW.insert x (y :: r) = x :: y :: r := by
  rw [DataW.insert, if_pos h]
theorem insert_neg {H : Type} (x y : Lit × DataW H) (r : List (Lit × DataW H)) (h : x.1.before y.1 = false) : DataW.insert x (y :: r) = y :: DataW.insert x r := by
  rw [DataW.insert, if_neg (by simp [h])]
theorem toD_ins (x : ByteArray × Value) (l : List (ByteArray × Value)) :
    DataW.insert (Lit.string x.1.data.toList, DataW.held x.2) (l.map fun p => (Lit.string p.1.data.toList, DataW.held p.2)) = (kvIns x l).map fun p => (Lit.string p.1.data.toList, DataW.held p.2) := by
  induction l with
  | nil => rfl
  | cons y r ih =>
    cases h : bytesBefore x.1.data.toList y.1.data.toList with
    | true => rw [kvIns, if_pos h]; exact insert_pos _ _ _ h
    | false =>
      rw [kvIns, if_neg (by simp [h]), List.map_cons, List.map_cons, ← ih]
      exact insert_neg _ _ _ h

theorem toD_put (l : List (ByteArray × Value)) (k : ByteArray) (v : Value) : (toD l).put (.string k.data.toList) (.held v) = toD (kvPut l k v) := by
  have h := toD_del l k
  simp only [DataW.del, toD, DataW.map.injEq] at h
  simp only [DataW.put, toD, kvPut]
  rw [h]
  exact congrArg DataW.map (toD_ins (k, v) (kvDel l k))

/-- Block b is a map with string keys that holds just l. -/
def ownsKV (w : World) (P : Program) (k : TypeId) (b : Nat) (l : List (ByteArray × Value)) : Prop := w.ownsMap P k heldR b l.length (toD l)

theorem ownsKV_of {w : World} {P : Program} {k : TypeId} {b n : Nat} {l : List (ByteArray × Value)} (h : w.ownsMap P k heldR b n (toD l)) : ownsKV w P k b l := by
  obtain ⟨es, clock, hb, F, hs, hD⟩ := h
  refine ⟨es, clock, hb, F, ?_, hD⟩
  have := congrArg Maps.size hD
  simp [Maps.size, toD, length_sorted] at this
  omega

theorem ownsKV_made (w : World) (P : Program) (k : TypeId) : ownsKV (w.alloc (.map #[] 0)) P k w.heap.size [] := World.ownsMap_made w P k heldR

theorem ownsKV_block {w w' : World} {P : Program} {k : TypeId} {b : Nat} {l : List (ByteArray × Value)} (h : ownsKV w P k b l) (he : w'.heap[b]? = w.heap[b]?) : ownsKV w' P k b l := by
  obtain ⟨es, clock, hb, F⟩ := h
  exact ⟨es, clock, he.trans hb, F⟩

theorem ownsKV_lt {w : World} {P : Program} {k : TypeId} {b : Nat} {l : List (ByteArray × Value)} (h : ownsKV w P k b l) : b < w.heap.size := h.lt

section
variable {P : Program} {w : World} {ops : Array Oper} {rest : List Oper} {o : Oper} {a : Act} {Q : Exit → Act → World → Prop}

theorem wpList_kvFound (hg : o.guard = none) (m x : Operand) (t : TypeId) (hop : o.op = Op.lookup t m x true)
    {k e : TypeId} (hk : P.underlying k = some .string) (ht : P.underlying t = some (.map k e)) {z : Value} (hz : (zeroValue e).run P w = .ok z w) {b : Nat} {l : List (ByteArray × Value)}
    (hm : a.eval m = .map (some b)) (hown : ownsKV w P k b l) {s : ByteArray} (hx : a.eval x = .string s) (hs : s.size ≤ maxLen) {v : Value} (hv : kvGet l s = some v)
    (hK : wpList P ops Q rest (a.put o.dst (.tuple #[v, .bool true])) w) :
    wpList P ops Q (o :: rest) a w := by
  refine wpList_lookup_own_ok w hg m x t hop k e (string_keyed hk) ht heldR hz (.held z) [] rfl b l.length (toD l) hm hown _ _ hx (WideMaps.keyOf_string_mk hk hs) ?_
  intro u ps hu
  rw [toD_at, hv] at hu
  rw [toD_has, hv]
  simp [heldR] at hu
  obtain ⟨rfl, _⟩ := hu
  exact hK

theorem wpList_kvNone (hg : o.guard = none) (m x : Operand) (t : TypeId) (hop : o.op = Op.lookup t m x true)
    {k e : TypeId} (hk : P.underlying k = some .string) (ht : P.underlying t = some (.map k e)) {z : Value} (hz : (zeroValue e).run P w = .ok z w) {b : Nat} {l : List (ByteArray × Value)}
    (hm : a.eval m = .map (some b)) (hown : ownsKV w P k b l) {s : ByteArray} (hx : a.eval x = .string s) (hs : s.size ≤ maxLen) (hv : kvGet l s = none)
    (hK : wpList P ops Q rest (a.put o.dst (.tuple #[z, .bool false])) w) :
    wpList P ops Q (o :: rest) a w := by
  refine wpList_lookup_own_ok w hg m x t hop k e (string_keyed hk) ht heldR hz (.held z) [] rfl b l.length (toD l) hm hown _ _ hx (WideMaps.keyOf_string_mk hk hs) ?_
  intro u ps hu
  rw [toD_at, hv] at hu
  rw [toD_has, hv]
  simp [heldR] at hu
  obtain ⟨rfl, _⟩ := hu
  exact hK

theorem wpList_kvStore (hg : o.guard = none) (m x v : Operand) (t : TypeId) (hop : o.op = Op.mapUpdate t m x v)
    {k e : TypeId} (hk : P.underlying k = some .string) (ht : P.underlying t = some (.map k e)) {b : Nat} {l : List (ByteArray × Value)}
    (hm : a.eval m = .map (some b)) (hown : ownsKV w P k b l) (hn : l.length < 1099511627776) {s : ByteArray} {u : Value} (hx : a.eval x = .string s) (hs : s.size ≤ maxLen) (hv : a.eval v = u)
    (hK : ∀ w', ownsKV w' P k b (kvPut l s u) → w.mapTurned w' b → wpList P ops Q rest (a.put o.dst undef) w') :
    wpList P ops Q (o :: rest) a w := by
  refine wpList_mapUpdate_in w hg m x v t hop k e (string_keyed hk) ht heldR b l.length (toD l) hm hown (by unfold maxLen; omega) _ _ _ hx hv (WideMaps.keyOf_string_mk hk hs) (.held u) [] rfl ?_
  intro w' h1 h2
  rw [toD_put] at h1
  exact hK w' (ownsKV_of h1) h2

theorem wpList_kvDelete (hg : o.guard = none) (m x : Operand) (t k : TypeId) (hop : o.op = Op.call { callee := Callee.builtin Builtin.delete, args := #[m, x], argTypes := #[t, k] })
    {e : TypeId} (hk : P.underlying k = some .string) (ht : P.underlying t = some (.map k e)) {b : Nat} {l : List (ByteArray × Value)}
    (hm : a.eval m = .map (some b)) (hown : ownsKV w P k b l) {s : ByteArray} (hx : a.eval x = .string s) (hs : s.size ≤ maxLen)
    (hK : ∀ w', ownsKV w' P k b (kvDel l s) → w.mapTurned w' b → wpList P ops Q rest (a.put o.dst (.tuple #[])) w') :
    wpList P ops Q (o :: rest) a w := by
  refine wpList_delete_own w hg m x t k hop e (string_keyed hk) ht heldR b l.length (toD l) hm hown _ _ hx (WideMaps.keyOf_string_mk hk hs) ?_
  intro w' h1 h2
  rw [toD_del] at h1
  exact hK w' (ownsKV_of h1) h2
end

/-- What is not of F is as it was; what is new is new. -/
structure Touch (F : Nat → Prop) (w w' : World) : Prop where
  os : w'.os = w.os
  tape : w'.tape = w.tape
  output : w'.output = w.output
  size : w.heap.size ≤ w'.heap.size
  block : ∀ k, k < w.heap.size → ¬ F k → w'.heap[k]? = w.heap[k]?

theorem Touch.refl (F : Nat → Prop) (w : World) : Touch F w w := ⟨rfl, rfl, rfl, Nat.le_refl _, fun _ _ _ => rfl⟩
theorem Touch.trans {F G : Nat → Prop} {a b c : World} (h : Touch F a b) (k : Touch G b c) (hs : ∀ i, i < a.heap.size → G i → F i) : Touch F a c :=
  ⟨k.os.trans h.os, k.tape.trans h.tape, k.output.trans h.output, Nat.le_trans h.size k.size,
    fun i hi hf => (k.block i (Nat.lt_of_lt_of_le hi h.size) (fun g => hf (hs i hi g))).trans (h.block i hi hf)⟩
theorem Touch.mono {F G : Nat → Prop} {a b : World} (h : Touch F a b) (hs : ∀ i, i < a.heap.size → F i → G i) : Touch G a b :=
  ⟨h.os, h.tape, h.output, h.size, fun i hi hf => h.block i hi (fun g => hf (hs i hi g))⟩
theorem Touch.of_below {w w' : World} (F : Nat → Prop) (h : Below w.heap.size w w') : Touch F w w' := ⟨h.os, h.tape, h.output, h.size, fun k hk _ => h.block k hk⟩
theorem Touch.below {F : Nat → Prop} {B : Nat} {w w' : World} (h : Touch F w w') (hB : B ≤ w.heap.size) (hF : ∀ k, k < B → ¬ F k) : Below B w w' := ⟨h.os, h.tape, h.output, h.size, fun k hk => h.block k (by omega) (hF k hk)⟩
theorem Touch.of_turned {w w' : World} {b : Nat} (h : w.mapTurned w' b) : Touch (· = b) w w' :=
  let g := h.grown
  ⟨g.os, g.tape, g.output, g.size, fun k hk hn => g.block k hk (fun e => hn (Option.some.inj e))⟩
theorem Touch.of_grown {w w' : World} {row : Option Nat} (h : w.grownBy w' row) : Touch (fun k => row = some k) w w' :=
  ⟨h.os, h.tape, h.output, h.size, fun k hk hn => h.block k hk (fun e => hn e.symm)⟩
theorem Touch.setCell (w : World) (p : Addr) (u : Value) : Touch (· = p.block) w (w.setCell p u) :=
  ⟨rfl, rfl, rfl, by simp [World.setCell], fun k _ hn => Below.heap_setCell _ _ _ _ hn⟩
theorem Touch.setc (w : World) (b i : Nat) (u : Value) : Touch (· = b) w (w.setCell ⟨b, i, none⟩ u) := Touch.setCell w ⟨b, i, none⟩ u
theorem Touch.alloc (F : Nat → Prop) (w : World) (o : Obj) : Touch F w (w.alloc o) := Touch.of_below F ((Below.refl _ w).alloc (Nat.le_refl _) o)
theorem Touch.cell {F : Nat → Prop} {w w' : World} (h : Touch F w w') {p : Addr} (hp : p.block < w.heap.size) (hf : ¬ F p.block) : w'.cell? p = w.cell? p := World.cell?_of_block (w := w) (h.block p.block hp hf)
theorem Touch.frozen {F : Nat → Prop} {w w' : World} (h : Touch F w w') {p : Addr} (hp : p.block < w.heap.size) (hf : ¬ F p.block) : w'.frozen? p = w.frozen? p := World.frozen?_of_block (w := w) (h.block p.block hp hf)

end Go.Proofs.YtaoejgnfoecpfaaDoor
