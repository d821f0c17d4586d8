/- Maps with string keys, their content as a list of keys and values in rising order; what a call may touch. A range over a map with string keys. Maps with string keys: a look-up with one value; a literal's entry; sets of texts. A tree's nodes: Check. -/
import Derived.Test.YtaoejgnfoecpfaaDoorJk1
import Derived.Maps.OwnOps
import Derived.Maps.OwnSet
import Derived.Maps.RangeWalk
import Derived.Test.YtaoejgnfoecpfaaDoorJk8
import Derived.Test.YtaoejgnfoecpfaaDoorJk4
import Derived.Deep.DeepCutAuto
namespace Go.Proofs.YtaoejgnfoecpfaaDoor
set_option linter.unusedVariables false
set_option linter.unusedSimpArgs false
set_option linter.unusedSectionVars false
open Go.RowKit Go.Maps

/-- how a value reads: as itself -/
def heldR : Value → Option (DataW Value × List MemPlace) := fun v => some (.held v, [])

section
variable {α β : Type}
def kvGet (l : List (ByteArray × α)) (k : ByteArray) : Option α := (l.find? fun p => decide (p.1 = k)).map (·.2)
def kvDel (l : List (ByteArray × α)) (k : ByteArray) : List (ByteArray × α) := l.filter fun p => decide (p.1 ≠ k)
def kvIns (x : ByteArray × α) : List (ByteArray × α) → List (ByteArray × α)
  | [] => [x]
  | y :: r => if bytesBefore x.1.data.toList y.1.data.toList then x :: y :: r else y :: kvIns x r
def kvPut (l : List (ByteArray × α)) (k : ByteArray) (v : α) : List (ByteArray × α) := kvIns (k, v) (kvDel l k)
def kvMap (f : α → β) (l : List (ByteArray × α)) : List (ByteArray × β) := l.map fun p => (p.1, f p.2)

theorem kvGet_map (f : α → β) (l : List (ByteArray × α)) (k : ByteArray) : kvGet (kvMap f l) k = (kvGet l k).map f := by
  simp [kvGet, kvMap, List.find?_map, Function.comp_def]
theorem kvDel_map (f : α → β) (l : List (ByteArray × α)) (k : ByteArray) : kvDel (kvMap f l) k = kvMap f (kvDel l k) := by
  simp [kvDel, kvMap, List.filter_map, Function.comp_def]
theorem kvIns_map (f : α → β) (x : ByteArray × α) (l : List (ByteArray × α)) : kvIns (x.1, f x.2) (kvMap f l) = kvMap f (kvIns x l) := by
  induction l with
  | nil => rfl
  | cons y r ih =>
    simp only [kvMap, List.map_cons, kvIns] at ih ⊢
    split
    · simp
    · simp [ih]
theorem kvPut_map (f : α → β) (l : List (ByteArray × α)) (k : ByteArray) (v : α) : kvPut (kvMap f l) k (f v) = kvMap f (kvPut l k v) := by
  unfold kvPut; rw [kvDel_map]; exact kvIns_map f (k, v) (kvDel l k)
theorem kvMap_len (f : α → β) (l : List (ByteArray × α)) : (kvMap f l).length = l.length := by simp [kvMap]
end

def toD (l : List (ByteArray × Value)) : DataW Value := .map (l.map fun p => (Lit.string p.1.data.toList, .held p.2))

theorem ba_eq {a b : ByteArray} : a.data.toList = b.data.toList ↔ a = b := by
  constructor
  · intro h
    exact ByteArray.ext (Array.toList_inj.1 h)
  · rintro rfl; rfl
theorem key_same (p : ByteArray) (k : ByteArray) : (Lit.string p.data.toList).sameKey (.string k.data.toList) = decide (p = k) := by
  simp only [Lit.sameKey]
  rw [Bool.eq_iff_iff]
  simp only [beq_iff_eq, decide_eq_true_eq]
  exact ba_eq

theorem toD_has (l : List (ByteArray × Value)) (k : ByteArray) : Maps.has (toD l) (.string k.data.toList) = (kvGet l k).isSome := by
  simp only [Maps.has, toD, kvGet, List.any_map, Function.comp_def, key_same]
  induction l with
  | nil => rfl
  | cons x r ih =>
    simp only [List.any_cons, List.find?_cons]
    cases h : decide (x.1 = k) <;> simp [ih]

theorem toD_at (l : List (ByteArray × Value)) (k : ByteArray) (z : Value) : (toD l).atKey (.string k.data.toList) (.held z) = .held ((kvGet l k).getD z) := by
  simp only [DataW.atKey, toD, kvGet, List.find?_map, Function.comp_def, key_same]
  cases l.find? (fun p => decide (p.1 = k)) <;> rfl

theorem toD_del (l : List (ByteArray × Value)) (k : ByteArray) : (toD l).del (.string k.data.toList) = toD (kvDel l k) := by
  simp only [DataW.del, toD, kvDel, List.filter_map, Function.comp_def, key_same]
  simp

theorem insert_pos {H : Type} (x y : Lit × DataW H) (r : List (Lit × DataW H)) (h : x.1.before y.1 = true) : DataW.insert x (y :: r) = x :: y :: r := by
  rw [DataW.insert, if_pos h]
theorem insert_neg {H : Type} (x y : Lit × DataW H) (r : List (Lit × DataW H)) (h : x.1.before y.1 = false) : DataW.insert x (y :: r) = y :: DataW.insert x r := by
  rw [DataW.insert, if_neg (by simp [h])]
theorem toD_ins (x : ByteArray × Value) (l : List (ByteArray × Value)) :
    DataW.insert (Lit.string x.1.data.toList, DataW.held x.2) (l.map fun p => (Lit.string p.1.data.toList, DataW.held p.2)) = (kvIns x l).map fun p => (Lit.string p.1.data.toList, DataW.held p.2) := by
  induction l with
  | nil => rfl
  | cons y r ih =>
    cases h : bytesBefore x.1.data.toList y.1.data.toList with
    | true => rw [kvIns, if_pos h]; exact insert_pos _ _ _ h
    | false =>
      rw [kvIns, if_neg (by simp [h]), List.map_cons, List.map_cons, ← ih]
      exact insert_neg _ _ _ h

theorem toD_put (l : List (ByteArray × Value)) (k : ByteArray) (v : Value) : (toD l).put (.string k.data.toList) (.held v) = toD (kvPut l k v) := by
  have h := toD_del l k
  simp only [DataW.del, toD, DataW.map.injEq] at h
  simp only [DataW.put, toD, kvPut]
  rw [h]
  exact congrArg DataW.map (toD_ins (k, v) (kvDel l k))

/-- Block b is a map with string keys that holds just l. -/
def ownsKV (w : World) (P : Program) (k : TypeId) (b : Nat) (l : List (ByteArray × Value)) : Prop := w.ownsMap P k heldR b l.length (toD l)

theorem ownsKV_of {w : World} {P : Program} {k : TypeId} {b n : Nat} {l : List (ByteArray × Value)} (h : w.ownsMap P k heldR b n (toD l)) : ownsKV w P k b l := by
  obtain ⟨es, clock, hb, F, hs, hD⟩ := h
  refine ⟨es, clock, hb, F, ?_, hD⟩
  have := congrArg Maps.size hD
  simp [Maps.size, toD, length_sorted] at this
  omega

theorem ownsKV_made (w : World) (P : Program) (k : TypeId) : ownsKV (w.alloc (.map #[] 0)) P k w.heap.size [] := World.ownsMap_made w P k heldR

theorem ownsKV_block {w w' : World} {P : Program} {k : TypeId} {b : Nat} {l : List (ByteArray × Value)} (h : ownsKV w P k b l) (he : w'.heap[b]? = w.heap[b]?) : ownsKV w' P k b l := by
  obtain ⟨es, clock, hb, F⟩ := h
  exact ⟨es, clock, he.trans hb, F⟩

theorem ownsKV_lt {w : World} {P : Program} {k : TypeId} {b : Nat} {l : List (ByteArray × Value)} (h : ownsKV w P k b l) : b < w.heap.size := h.lt

section
variable {P : Program} {w : World} {ops : Array Oper} {rest : List Oper} {o : Oper} {a : Act} {Q : Exit → Act → World → Prop}

theorem wpList_kvFound (hg : o.guard = none) (m x : Operand) (t : TypeId) (hop : o.op = Op.lookup t m x true)
    {k e : TypeId} (hk : P.underlying k = some .string) (ht : P.underlying t = some (.map k e)) {z : Value} (hz : (zeroValue e).run P w = .ok z w) {b : Nat} {l : List (ByteArray × Value)}
    (hm : a.eval m = .map (some b)) (hown : ownsKV w P k b l) {s : ByteArray} (hx : a.eval x = .string s) (hs : s.size ≤ maxLen) {v : Value} (hv : kvGet l s = some v)
    (hK : wpList P ops Q rest (a.put o.dst (.tuple #[v, .bool true])) w) :
    wpList P ops Q (o :: rest) a w := by
  refine wpList_lookup_own_ok w hg m x t hop k e (string_keyed hk) ht heldR hz (.held z) [] rfl b l.length (toD l) hm hown _ _ hx (WideMaps.keyOf_string_mk hk hs) ?_
  intro u ps hu
  rw [toD_at, hv] at hu
  rw [toD_has, hv]
  simp [heldR] at hu
  obtain ⟨rfl, _⟩ := hu
  exact hK

theorem wpList_kvNone (hg : o.guard = none) (m x : Operand) (t : TypeId) (hop : o.op = Op.lookup t m x true)
    {k e : TypeId} (hk : P.underlying k = some .string) (ht : P.underlying t = some (.map k e)) {z : Value} (hz : (zeroValue e).run P w = .ok z w) {b : Nat} {l : List (ByteArray × Value)}
    (hm : a.eval m = .map (some b)) (hown : ownsKV w P k b l) {s : ByteArray} (hx : a.eval x = .string s) (hs : s.size ≤ maxLen) (hv : kvGet l s = none)
    (hK : wpList P ops Q rest (a.put o.dst (.tuple #[z, .bool false])) w) :
    wpList P ops Q (o :: rest) a w := by
  refine wpList_lookup_own_ok w hg m x t hop k e (string_keyed hk) ht heldR hz (.held z) [] rfl b l.length (toD l) hm hown _ _ hx (WideMaps.keyOf_string_mk hk hs) ?_
  intro u ps hu
  rw [toD_at, hv] at hu
  rw [toD_has, hv]
  simp [heldR] at hu
  obtain ⟨rfl, _⟩ := hu
  exact hK

theorem wpList_kvStore (hg : o.guard = none) (m x v : Operand) (t : TypeId) (hop : o.op = Op.mapUpdate t m x v)
    {k e : TypeId} (hk : P.underlying k = some .string) (ht : P.underlying t = some (.map k e)) {b : Nat} {l : List (ByteArray × Value)}
    (hm : a.eval m = .map (some b)) (hown : ownsKV w P k b l) (hn : l.length < 1099511627776) {s : ByteArray} {u : Value} (hx : a.eval x = .string s) (hs : s.size ≤ maxLen) (hv : a.eval v = u)
    (hK : ∀ w', ownsKV w' P k b (kvPut l s u) → w.mapTurned w' b → wpList P ops Q rest (a.put o.dst undef) w') :
    wpList P ops Q (o :: rest) a w := by
  refine wpList_mapUpdate_in w hg m x v t hop k e (string_keyed hk) ht heldR b l.length (toD l) hm hown (by unfold maxLen; omega) _ _ _ hx hv (WideMaps.keyOf_string_mk hk hs) (.held u) [] rfl ?_
  intro w' h1 h2
  rw [toD_put] at h1
  exact hK w' (ownsKV_of h1) h2

theorem wpList_kvDelete (hg : o.guard = none) (m x : Operand) (t k : TypeId) (hop : o.op = Op.call { callee := Callee.builtin Builtin.delete, args := #[m, x], argTypes := #[t, k] })
    {e : TypeId} (hk : P.underlying k = some .string) (ht : P.underlying t = some (.map k e)) {b : Nat} {l : List (ByteArray × Value)}
    (hm : a.eval m = .map (some b)) (hown : ownsKV w P k b l) {s : ByteArray} (hx : a.eval x = .string s) (hs : s.size ≤ maxLen)
    (hK : ∀ w', ownsKV w' P k b (kvDel l s) → w.mapTurned w' b → wpList P ops Q rest (a.put o.dst (.tuple #[])) w') :
    wpList P ops Q (o :: rest) a w := by
  refine wpList_delete_own w hg m x t k hop e (string_keyed hk) ht heldR b l.length (toD l) hm hown _ _ hx (WideMaps.keyOf_string_mk hk hs) ?_
  intro w' h1 h2
  rw [toD_del] at h1
  exact hK w' (ownsKV_of h1) h2
end

/-- What is not of F is as it was; what is new is new. -/
structure Touch (F : Nat → Prop) (w w' : World) : Prop where
  os : w'.os = w.os
  tape : w'.tape = w.tape
  output : w'.output = w.output
  size : w.heap.size ≤ w'.heap.size
  block : ∀ k, k < w.heap.size → ¬ F k → w'.heap[k]? = w.heap[k]?

theorem Touch.refl (F : Nat → Prop) (w : World) : Touch F w w := ⟨rfl, rfl, rfl, Nat.le_refl _, fun _ _ _ => rfl⟩
theorem Touch.trans {F G : Nat → Prop} {a b c : World} (h : Touch F a b) (k : Touch G b c) (hs : ∀ i, i < a.heap.size → G i → F i) : Touch F a c :=
  ⟨k.os.trans h.os, k.tape.trans h.tape, k.output.trans h.output, Nat.le_trans h.size k.size,
    fun i hi hf => (k.block i (Nat.lt_of_lt_of_le hi h.size) (fun g => hf (hs i hi g))).trans (h.block i hi hf)⟩
theorem Touch.mono {F G : Nat → Prop} {a b : World} (h : Touch F a b) (hs : ∀ i, i < a.heap.size → F i → G i) : Touch G a b :=
  ⟨h.os, h.tape, h.output, h.size, fun i hi hf => h.block i hi (fun g => hf (hs i hi g))⟩
theorem Touch.of_below {w w' : World} (F : Nat → Prop) (h : Below w.heap.size w w') : Touch F w w' := ⟨h.os, h.tape, h.output, h.size, fun k hk _ => h.block k hk⟩
theorem Touch.below {F : Nat → Prop} {B : Nat} {w w' : World} (h : Touch F w w') (hB : B ≤ w.heap.size) (hF : ∀ k, k < B → ¬ F k) : Below B w w' := ⟨h.os, h.tape, h.output, h.size, fun k hk => h.block k (by omega) (hF k hk)⟩
theorem Touch.of_turned {w w' : World} {b : Nat} (h : w.mapTurned w' b) : Touch (· = b) w w' :=
  let g := h.grown
  ⟨g.os, g.tape, g.output, g.size, fun k hk hn => g.block k hk (fun e => hn (Option.some.inj e))⟩
theorem Touch.of_grown {w w' : World} {row : Option Nat} (h : w.grownBy w' row) : Touch (fun k => row = some k) w w' :=
  ⟨h.os, h.tape, h.output, h.size, fun k hk hn => h.block k hk (fun e => hn e.symm)⟩
theorem Touch.setCell (w : World) (p : Addr) (u : Value) : Touch (· = p.block) w (w.setCell p u) :=
  ⟨rfl, rfl, rfl, by simp [World.setCell], fun k _ hn => Below.heap_setCell _ _ _ _ hn⟩
theorem Touch.setc (w : World) (b i : Nat) (u : Value) : Touch (· = b) w (w.setCell ⟨b, i, none⟩ u) := Touch.setCell w ⟨b, i, none⟩ u
theorem Touch.alloc (F : Nat → Prop) (w : World) (o : Obj) : Touch F w (w.alloc o) := Touch.of_below F ((Below.refl _ w).alloc (Nat.le_refl _) o)
theorem Touch.cell {F : Nat → Prop} {w w' : World} (h : Touch F w w') {p : Addr} (hp : p.block < w.heap.size) (hf : ¬ F p.block) : w'.cell? p = w.cell? p := World.cell?_of_block (w := w) (h.block p.block hp hf)
theorem Touch.frozen {F : Nat → Prop} {w w' : World} (h : Touch F w w') {p : Addr} (hp : p.block < w.heap.size) (hf : ¬ F p.block) : w'.frozen? p = w.frozen? p := World.frozen?_of_block (w := w) (h.block p.block hp hf)

end Go.Proofs.YtaoejgnfoecpfaaDoor
namespace Go.Proofs.YtaoejgnfoecpfaaDoor
set_option linter.unusedVariables false
set_option linter.unusedSimpArgs false
set_option linter.unusedSectionVars false
open Go.RowKit Go.Maps

/-- a loop over block b's map l is under way: todo is still to come (cnt entries) -/
def rangesKV (w : World) (P : Program) (k : TypeId) (b r : Nat) (l todo : List (ByteArray × Value)) (cnt : Nat) : Prop :=
  ∃ left, w.ranges P k heldR b r l.length (toD l) left cnt ∧ todo = l.filter fun p => left (.string p.1.data.toList)

/-- no key twice -/
def kvApart {α : Type} (l : List (ByteArray × α)) : Prop := l.Pairwise fun p q => p.1 ≠ q.1

theorem ownsKV_apart {w : World} {P : Program} {k : TypeId} {b : Nat} {l : List (ByteArray × Value)} (hk : P.underlying k = some .string) (h : ownsKV w P k b l) : kvApart l := by
  obtain ⟨es, hes, hp, _⟩ := World.ownsMap.entries h (string_keyed hk)
  simp only [toD, DataW.map.injEq] at hes
  subst hes
  rw [List.pairwise_map] at hp
  exact hp.imp fun {p q} h e => h (by rw [e])

theorem kvGet_mem {α : Type} {l : List (ByteArray × α)} {k : ByteArray} {v : α} (h : kvGet l k = some v) : (k, v) ∈ l := by
  unfold kvGet at h
  cases hf : l.find? (fun p => decide (p.1 = k)) with
  | none => simp [hf] at h
  | some p =>
    have h1 := List.mem_of_find?_eq_some hf
    have h2 := List.find?_some hf
    simp [hf] at h h2
    subst h h2
    exact h1

theorem kvGet_of_mem {α : Type} {l : List (ByteArray × α)} {k : ByteArray} {v : α} (ha : kvApart l) (h : (k, v) ∈ l) : kvGet l k = some v := by
  induction l with
  | nil => cases h
  | cons x r ih =>
    unfold kvGet
    rw [List.find?_cons]
    have ha' := List.pairwise_cons.1 ha
    rcases List.mem_cons.1 h with e | e
    · subst e; simp
    · have : x.1 ≠ k := ha'.1 _ e
      simp [this]
      simpa [kvGet] using ih ha'.2 e

section
variable {P : Program} {w : World} {ops : Array Oper} {rest : List Oper} {o : Oper} {a : Act} {Q : Exit → Act → World → Prop}

theorem wpList_kvRange (hg : o.guard = none) (m : Operand) (t : TypeId) (hop : o.op = Op.range t m) {k e : TypeId} (hk : P.underlying k = some .string) (ht : P.underlying t = some (.map k e)) {b : Nat} {l : List (ByteArray × Value)}
    (hm : a.eval m = .map (some b)) (hown : ownsKV w P k b l)
    (hK : ∀ w' cnt, rangesKV w' P k b w.heap.size l l cnt → Below w.heap.size w w' → w'.heap.size = w.heap.size + 1 → wpList P ops Q rest (a.put o.dst (.pointer (some ⟨w.heap.size, 0, none⟩))) w') :
    wpList P ops Q (o :: rest) a w := by
  refine wpList_range_own w hg m t hop k e (string_keyed hk) ht heldR b l.length (toD l) hm hown ?_
  intro w' h1 h2 h3
  refine hK w' _ ⟨_, h1, ?_⟩ ⟨h2.os, h2.tape, h2.output, h2.size, fun i hi => h2.block i hi (by simp)⟩ h3
  symm
  rw [List.filter_eq_self]
  intro p hp
  simp only [Maps.has, toD, List.any_map, Function.comp_def, key_same]
  exact List.any_eq_true.2 ⟨p, hp, by simp⟩

theorem wpList_kvNext (hg : o.guard = none) (it : Operand) (hop : o.op = Op.next it false) {k : TypeId} (hk : P.underlying k = some .string) {b r : Nat} {l todo : List (ByteArray × Value)} {cnt : Nat}
    (hit : a.eval it = .pointer (some ⟨r, 0, none⟩)) (h : rangesKV w P k b r l todo cnt)
    (hDone : todo = [] → wpList P ops Q rest (a.put o.dst (.tuple #[.bool false])) w)
    (hMore : ∀ (s : ByteArray) (v : Value) (w' : World) (cnt' : Nat), (s, v) ∈ todo → s.size ≤ maxLen → rangesKV w' P k b r l (kvDel todo s) cnt' → cnt' < cnt →
      w.grownBy w' (some r) → w'.heap.size = w.heap.size → (Instr.entry (.pointer (some ⟨r, 0, none⟩))).run P w' = .ok (.tuple #[.string s, v]) w' → wpList P ops Q rest (a.put o.dst (.tuple #[.bool true, .string s, v])) w') :
    wpList P ops Q (o :: rest) a w := by
  obtain ⟨left, hr, rfl⟩ := h
  refine wpList_next_ranges (α := ByteArray) (β := Value) w hg it hop k (string_keyed hk) heldR (fun s => .string s) id (fun key kl hkey => ?_) (fun v y _ => ⟨v, rfl⟩) b r l.length (toD l) left cnt hit hr ?_ ?_
  · cases key <;> simp [keyOf, hk, mapKey] at hkey
    exact ⟨_, rfl⟩
  · intro _ hl
    exact hDone (by rw [List.filter_eq_nil_iff]; intro p _; simp [hl])
  · intro s v kl y w' cnt' hkey hlk hv hat hrg hlt hgr hsz hen
    have hkl : kl = .string s.data.toList ∧ s.size ≤ maxLen := by
      simp [keyOf, hk, mapKey] at hkey
      exact ⟨hkey.2.symm, hkey.1⟩
    obtain ⟨rfl, hsl⟩ := hkl
    have hget : kvGet l s = some v := by
      have h1 := hat (.held (.bool true))
      have h2 := hat (.held (.bool false))
      rw [toD_at] at h1 h2
      simp [heldR] at hv
      subst hv
      cases hg : kvGet l s with
      | none => simp [hg] at h1 h2; rw [← h1] at h2; cases h2
      | some u => simp [hg] at h1; rw [h1]
    refine hMore s v w' cnt' ?_ hsl ⟨_, hrg, ?_⟩ hlt hgr hsz hen
    · exact List.mem_filter.2 ⟨kvGet_mem hget, hlk⟩
    · simp only [kvDel, List.filter_filter, key_same]
      refine List.filter_congr fun p _ => ?_
      simp [Bool.and_comm]
end

theorem rangesKV.size {w : World} {P : Program} {k : TypeId} {b r : Nat} {l todo : List (ByteArray × Value)} {cnt : Nat} (h : rangesKV w P k b r l todo cnt) : w.rangeLeft b r = cnt := by
  obtain ⟨left, hr, _⟩ := h; exact hr.left_eq
theorem rangesKV.owns {w : World} {P : Program} {k : TypeId} {b r : Nat} {l todo : List (ByteArray × Value)} {cnt : Nat} (h : rangesKV w P k b r l todo cnt) : ownsKV w P k b l := by
  obtain ⟨left, hr, _⟩ := h; exact hr.owns
theorem rangesKV.keep {w w' : World} {P : Program} {k : TypeId} {b r : Nat} {l todo : List (ByteArray × Value)} {cnt : Nat} (h : rangesKV w P k b r l todo cnt) (h1 : w'.heap[b]? = w.heap[b]?) (h2 : w'.heap[r]? = w.heap[r]?) : rangesKV w' P k b r l todo cnt := by
  obtain ⟨left, ⟨es, clock, since, seen, c0, hb, F, hs, hD, hr, rest⟩, ht⟩ := h
  exact ⟨left, ⟨es, clock, since, seen, c0, h1.trans hb, F, hs, hD, h2.trans hr, rest⟩, ht⟩

theorem rangesKV.sub {w : World} {P : Program} {k : TypeId} {b r : Nat} {l todo : List (ByteArray × Value)} {cnt : Nat} (h : rangesKV w P k b r l todo cnt) : ∀ p ∈ todo, p ∈ l := by
  obtain ⟨left, _, rfl⟩ := h; exact fun p hp => (List.mem_filter.1 hp).1
theorem rangesKV.apart {w : World} {P : Program} {k : TypeId} {b r : Nat} {l todo : List (ByteArray × Value)} {cnt : Nat} (h : rangesKV w P k b r l todo cnt) (ha : kvApart l) : kvApart todo := by
  obtain ⟨left, _, rfl⟩ := h; exact ha.filter _

/-- what a sum over a list loses with one entry -/
def kvSum {α : Type} (f : α → Nat) (l : List (ByteArray × α)) : Nat := (l.map fun p => f p.2).sum
theorem kvDel_noop {α : Type} {l : List (ByteArray × α)} {k : ByteArray} (h : ∀ p ∈ l, p.1 ≠ k) : kvDel l k = l := by
  unfold kvDel; rw [List.filter_eq_self]; intro p hp; simp [h p hp]
theorem kvSum_del {α : Type} (f : α → Nat) {l : List (ByteArray × α)} {k : ByteArray} {v : α} (ha : kvApart l) (h : (k, v) ∈ l) : kvSum f l = f v + kvSum f (kvDel l k) := by
  induction l with
  | nil => cases h
  | cons x r ih =>
    have ha' := List.pairwise_cons.1 ha
    rcases List.mem_cons.1 h with e | e
    · subst e
      have : kvDel ((k, v) :: r) k = r := by
        have := kvDel_noop (l := r) (k := k) (fun p hp => (ha'.1 p hp).symm)
        simpa [kvDel] using this
      rw [this]; simp [kvSum]
    · have hx : x.1 ≠ k := ha'.1 _ e
      have hd : kvDel (x :: r) k = x :: kvDel r k := by simp [kvDel, hx]
      rw [hd]
      have := ih ha'.2 e
      simp only [kvSum, List.map_cons, List.sum_cons] at this ⊢
      omega
theorem kvApart_del {α : Type} {l : List (ByteArray × α)} (k : ByteArray) (h : kvApart l) : kvApart (kvDel l k) := h.filter _
theorem kvApart_map {α β : Type} {f : α → β} {l : List (ByteArray × α)} : kvApart (kvMap f l) ↔ kvApart l := by
  unfold kvApart kvMap; rw [List.pairwise_map]

theorem kvIns_perm {α : Type} (x : ByteArray × α) (l : List (ByteArray × α)) : (kvIns x l).Perm (x :: l) := by
  induction l with
  | nil => exact List.Perm.refl _
  | cons y r ih =>
    unfold kvIns
    split
    · exact List.Perm.refl _
    · exact (List.Perm.cons y ih).trans (List.Perm.swap x y r)
theorem kvDel_no {α : Type} {l : List (ByteArray × α)} {k : ByteArray} : ∀ p ∈ kvDel l k, p.1 ≠ k := by
  intro p hp
  have := (List.mem_filter.1 hp).2
  simpa using this
theorem kvPut_perm {α : Type} (l : List (ByteArray × α)) (k : ByteArray) (v : α) : (kvPut l k v).Perm ((k, v) :: kvDel l k) := kvIns_perm _ _
theorem kvPut_mem {α : Type} {l : List (ByteArray × α)} {k : ByteArray} {v : α} {p : ByteArray × α} (h : p ∈ kvPut l k v) : p = (k, v) ∨ p ∈ l := by
  rcases List.mem_cons.1 ((kvPut_perm l k v).mem_iff.1 h) with h | h
  · exact Or.inl h
  · exact Or.inr (List.mem_filter.1 h).1
theorem kvDel_mem {α : Type} {l : List (ByteArray × α)} {k : ByteArray} {p : ByteArray × α} (h : p ∈ kvDel l k) : p ∈ l := (List.mem_filter.1 h).1
theorem kvDel_len {α : Type} (l : List (ByteArray × α)) (k : ByteArray) : (kvDel l k).length ≤ l.length := List.length_filter_le _ _
theorem kvPut_len {α : Type} (l : List (ByteArray × α)) (k : ByteArray) (v : α) : (kvPut l k v).length ≤ l.length + 1 := by
  rw [(kvPut_perm l k v).length_eq]; simp; exact kvDel_len l k
theorem kvApart_put {α : Type} {l : List (ByteArray × α)} (k : ByteArray) (v : α) (h : kvApart l) : kvApart (kvPut l k v) := by
  unfold kvApart
  refine ((kvPut_perm l k v).pairwise_iff (fun {_ _} h => Ne.symm h)).2 (List.pairwise_cons.2 ⟨fun p hp => (kvDel_no p hp).symm, kvApart_del k h⟩)
theorem kvMap_congr {α β : Type} {f g : α → β} {l : List (ByteArray × α)} (h : ∀ p ∈ l, f p.2 = g p.2) : kvMap f l = kvMap g l := by
  unfold kvMap; exact List.map_congr_left fun p hp => by rw [h p hp]
theorem kvDel_len_lt {α : Type} {l : List (ByteArray × α)} {k : ByteArray} {v : α} (h : kvGet l k = some v) : (kvDel l k).length + 1 ≤ l.length := by
  have hm := kvGet_mem h
  clear h
  induction l with
  | nil => cases hm
  | cons x r ih =>
    by_cases e : x.1 = k
    · have : kvDel (x :: r) k = kvDel r k := by simp [kvDel, e]
      rw [this]; simp; exact kvDel_len r k
    · have hd : kvDel (x :: r) k = x :: kvDel r k := by simp [kvDel, e]
      rw [hd]; simp
      rcases List.mem_cons.1 hm with e' | e'
      · exact absurd (by rw [← e']) e
      · exact ih e'
end Go.Proofs.YtaoejgnfoecpfaaDoor
namespace Go.Proofs.YtaoejgnfoecpfaaDoor
set_option linter.unusedVariables false
set_option linter.unusedSimpArgs false
set_option linter.unusedSectionVars false
open Go.RowKit Go.Maps

section
variable {P : Program} {w : World} {ops : Array Oper} {rest : List Oper} {o : Oper} {a : Act} {Q : Exit → Act → World → Prop}
theorem wpList_kvInsert (hg : o.guard = none) (m x v : Operand) (t : TypeId) (hop : o.op = Op.insert t m x v)
    {k e : TypeId} (hk : P.underlying k = some .string) (ht : P.underlying t = some (.map k e)) {b : Nat} {l : List (ByteArray × Value)}
    (hm : a.eval m = .map (some b)) (hown : ownsKV w P k b l) (hn : l.length < 1099511627776) {s : ByteArray} {u : Value} (hx : a.eval x = .string s) (hs : s.size ≤ maxLen) (hv : a.eval v = u)
    (hK : ∀ w', ownsKV w' P k b (kvPut l s u) → w.mapTurned w' b → wpList P ops Q rest (a.put o.dst undef) w') :
    wpList P ops Q (o :: rest) a w := by
  refine wpList_plain hg fun K' hK' => ?_
  obtain ⟨w', hrun, r1, r2⟩ := World.ownsMap.store hown (string_keyed hk) ht (by unfold maxLen; omega) (WideMaps.keyOf_string_mk hk hs) (val := u) (d := .held u) (ps := []) rfl
  unfold Oper.wp
  simp [execOp, hop, hm, hx, hv, hrun, Result.andThen]
  rw [toD_put] at r1
  exact hK' _ _ (hK w' (ownsKV_of r1) r2)
theorem wpList_kvGet (hg : o.guard = none) (m x : Operand) (t : TypeId) (hop : o.op = Op.lookup t m x false)
    {k e : TypeId} (hk : P.underlying k = some .string) (ht : P.underlying t = some (.map k e)) {z : Value} (hz : (zeroValue e).run P w = .ok z w) {b : Nat} {l : List (ByteArray × Value)}
    (hm : a.eval m = .map (some b)) (hown : ownsKV w P k b l) {s : ByteArray} (hx : a.eval x = .string s) (hs : s.size ≤ maxLen) {v : Value} (hv : (kvGet l s).getD z = v)
    (hK : wpList P ops Q rest (a.put o.dst v) w) :
    wpList P ops Q (o :: rest) a w := by
  refine wpList_plain hg fun K' hK' => ?_
  obtain ⟨u, ps, hrun, hu⟩ := World.ownsMap.lookup hown (string_keyed hk) ht hz (zd := .held z) (zp := []) rfl (WideMaps.keyOf_string_mk hk hs)
  unfold Oper.wp
  simp [execOp, hop, hm, hx, hrun, Result.andThen]
  rw [toD_at, hv] at hu
  simp [heldR] at hu
  obtain ⟨rfl, _⟩ := hu
  exact hK' _ _ hK
end
theorem kvGet_ins {α : Type} (x : ByteArray × α) (k : ByteArray) : ∀ (l : List (ByteArray × α)), (∀ p ∈ l, p.1 ≠ x.1) → kvGet (kvIns x l) k = if x.1 = k then some x.2 else kvGet l k
  | [], _ => by
    unfold kvIns kvGet
    by_cases h : x.1 = k <;> simp [h]
  | y :: r, h => by
    unfold kvIns
    split
    · unfold kvGet
      by_cases hk : x.1 = k <;> simp [hk]
    · have ih := kvGet_ins x k r (fun p hp => h p (by simp [hp]))
      have hy := h y (by simp)
      unfold kvGet at ih ⊢
      by_cases hyk : y.1 = k
      · have hx : ¬ x.1 = k := fun e => hy (hyk.trans e.symm)
        simp [hyk, hx]
      · rw [List.find?_cons_of_neg (by simpa using hyk), List.find?_cons_of_neg (by simpa using hyk)]
        exact ih
theorem kvGet_del {α : Type} (l : List (ByteArray × α)) (k j : ByteArray) (h : k ≠ j) : kvGet (kvDel l k) j = kvGet l j := by
  unfold kvGet kvDel
  rw [List.find?_filter]
  congr 2
  funext p
  by_cases hp : p.1 = j
  · have : p.1 ≠ k := fun e => h (e.symm.trans hp)
    simp [hp]
    exact fun e => h e.symm
  · simp [hp]
theorem kvGet_put' {α : Type} (l : List (ByteArray × α)) (k : ByteArray) (v : α) (j : ByteArray) : kvGet (kvPut l k v) j = if k = j then some v else kvGet l j := by
  unfold kvPut
  rw [kvGet_ins (k, v) j (kvDel l k) (fun p hp => by unfold kvDel at hp; simpa using (List.mem_filter.1 hp).2)]
  by_cases h : k = j
  · simp only; rw [if_pos h, if_pos h]
  · simp only; rw [if_neg h, if_neg h, kvGet_del l k j h]
/-- a set of texts, as a map that says true -/
def setV (l : List ByteArray) : List (ByteArray × Value) := l.foldl (fun m k => kvPut m k (.bool true)) []
theorem setV_snoc (l : List ByteArray) (k : ByteArray) : setV (l ++ [k]) = kvPut (setV l) k (.bool true) := by unfold setV; rw [List.foldl_append]; rfl
theorem setV_gen : ∀ (l : List ByteArray) (m : List (ByteArray × Value)) (P : List ByteArray), (∀ j, (kvGet m j).getD (.bool false) = .bool (P.any fun x => decide (x = j))) → ∀ j, (kvGet (l.foldl (fun m k => kvPut m k (.bool true)) m) j).getD (.bool false) = .bool ((P ++ l).any fun x => decide (x = j))
  | [], m, P, h, j => by rw [List.append_nil]; exact h j
  | k :: r, m, P, h, j => by
    have e : P ++ k :: r = (P ++ [k]) ++ r := by simp
    rw [e]
    refine setV_gen r (kvPut m k (.bool true)) (P ++ [k]) (fun i => ?_) j
    rw [kvGet_put']
    by_cases hk : k = i
    · subst hk
      rw [if_pos rfl]
      simp
    · rw [if_neg hk, h i]
      congr 1
      rw [List.any_append]
      simp [hk]
theorem setV_get (l : List ByteArray) (j : ByteArray) : (kvGet (setV l) j).getD (.bool false) = .bool (l.any fun x => decide (x = j)) := by
  have := setV_gen l [] [] (fun j => rfl) j
  rwa [List.nil_append] at this
theorem kvPut_lenX {α : Type} (l : List (ByteArray × α)) (k : ByteArray) (v : α) : (kvPut l k v).length ≤ l.length + 1 := by
  have hi : ∀ (x : ByteArray × α) (l : List (ByteArray × α)), (kvIns x l).length = l.length + 1 := by
    intro x l
    induction l with
    | nil => rfl
    | cons y r ih => unfold kvIns; split <;> simp [ih]
  unfold kvPut
  rw [hi]
  have := List.length_filter_le (fun p : ByteArray × α => decide (p.1 ≠ k)) l
  unfold kvDel
  omega
theorem setV_len (l : List ByteArray) : (setV l).length ≤ l.length := by
  have hg : ∀ (l : List ByteArray) (m : List (ByteArray × Value)), (l.foldl (fun m k => kvPut m k (.bool true)) m).length ≤ m.length + l.length := by
    intro l
    induction l with
    | nil => intro m; simp
    | cons k r ih =>
      intro m
      simp only [List.foldl_cons, List.length_cons]
      have h1 := ih (kvPut m k (.bool true))
      have h2 := kvPut_lenX m k (Value.bool true)
      omega
  have := hg l []
  rw [List.length_nil, Nat.zero_add] at this
  exact this
end Go.Proofs.YtaoejgnfoecpfaaDoor
namespace Go.Proofs.YtaoejgnfoecpfaaDoor
set_option linter.unusedVariables false
set_option linter.unusedSimpArgs false
set_option linter.unusedSectionVars false
open Go.RowKit

/-- a node whose kind is known: what a walk asks of its value -/
structure NodeAs (x : Nr) (t : TypeId) (u : Value) (f : Nat) : Prop where
  me : ∀ (n : Nat) (w : World), (Go.method (n + 1) t u "Path").run Tryd.prog w = .ok (f, u) w
  cf : ∀ w, (callFunc f #[u]).run Tryd.prog w = .ok (.enter f #[u]) w
  pa : ∀ w, Calls Tryd.prog f #[u] w fun e w' => e = .returned (.string x.at_) ∧ Below w.heap.size w w'
  ta : ∃ (z0 : ByteArray) (z1 z2 : Int), ∀ w, (Instr.typeAssert (.iface t u) 35 26 true).run Tryd.prog w = .ok (.tuple #[.agg #[.string z0, .int .i64 z1, .int .i64 z2], .bool (decide (x.kind = 1))]) w
theorem cfFol (u : Value) (w : World) : (callFunc 176 #[u]).run Tryd.prog w = .ok (.enter 176 #[u]) w := by kernel_rfl
theorem cfPla (u : Value) (w : World) : (callFunc 178 #[u]).run Tryd.prog w = .ok (.enter 178 #[u]) w := by kernel_rfl
theorem cfSym (u : Value) (w : World) : (callFunc 179 #[u]).run Tryd.prog w = .ok (.enter 179 #[u]) w := by kernel_rfl
theorem NodeIs.as_ {w : World} {v : Value} {x : Nr} (h : NodeIs w v x) (hk : kindOk x = true) : ∃ t u f, v = .iface t u ∧ NodeAs x t u f := by
  rcases h with ⟨h, rfl⟩ | ⟨h, A, c, rfl, _⟩ | ⟨h, rfl⟩ | ⟨h, _⟩
  · exact ⟨_, _, _, rfl, fun n w => mFol n _ w, fun w => cfFol _ w, fun w => pathF _ _ _ w, _, _, _, fun w => by rw [taFF, h]; rfl⟩
  · exact ⟨_, _, _, rfl, fun n w => mPla n _ w, fun w => cfPla _ w, fun w => pathP _ _ _ _ _ _ _ w, _, _, _, fun w => by rw [taPF, h]; rfl⟩
  · exact ⟨_, _, _, rfl, fun n w => mSym n _ w, fun w => cfSym _ w, fun w => pathS _ _ _ _ w, _, _, _, fun w => by rw [taSF, h]; rfl⟩
  · rw [hk] at h; cases h
/-- a row of nodes -/
def NodesA (w : World) (A : Option Addr) (l : List Nr) : Prop := 0 < l.length → ∃ g o, A = some ⟨g, o, none⟩ ∧ g < w.heap.size ∧ ∀ (i : Nat) (x : Nr), l[i]? = some x → ∃ v, w.cell? ⟨g, o + i, none⟩ = some v ∧ NodeIs w v x
theorem NodesA.below {w w' : World} {A : Option Addr} {l : List Nr} (h : NodesA w A l) (hb : Below w.heap.size w w') : NodesA w' A l := fun hl => by
  obtain ⟨g, o, rfl, hg, hc⟩ := h hl
  refine ⟨g, o, rfl, Nat.lt_of_lt_of_le hg hb.size, fun i x hi => ?_⟩
  obtain ⟨v, h1, h2⟩ := hc i x hi
  exact ⟨v, (hb.cell (p := ⟨g, o + i, none⟩) hg).trans h1, h2.below hb⟩
theorem NodeIs.low {w w' : World} {_B : Nat} {v : Value} {x : Nr} (h : NodeIs w v x) (hb : Below w.heap.size w w') : NodeIs w' v x := h.below hb
/-- the folders among nodes -/
def folsN (l : List Nr) : List ByteArray := noB :: (l.filter fun m => decide (m.kind = 1)).map Nr.at_
theorem fols_there (l : List Nr) (p : ByteArray) : ((folsN l).any fun x => decide (x = p)) = thereN l p := by
  unfold folsN thereN
  rw [List.any_cons]
  congr 1
  · rw [Bool.eq_iff_iff, decide_eq_true_eq, decide_eq_true_eq]
    constructor
    · rintro rfl; rfl
    · intro h
      apply ba_inj
      rw [List.eq_nil_of_length_eq_zero (show p.data.toList.length = 0 by rw [ba_len]; exact h)]
      rfl
  · rw [List.any_map, List.any_filter]
    rfl
theorem fols_snoc (l : List Nr) (x : Nr) : folsN (l ++ [x]) = if x.kind = 1 then folsN l ++ [x.at_] else folsN l := by
  unfold folsN
  rw [List.filter_append]
  by_cases h : x.kind = 1 <;> simp [h]
theorem fols_len (l : List Nr) : (folsN l).length ≤ l.length + 1 := by
  unfold folsN
  rw [List.length_cons, List.length_map]
  have := List.length_filter_le (fun m : Nr => decide (m.kind = 1)) l
  omega
theorem sCmp_three (a b : ByteArray) : sCmp a b = -1 ∨ sCmp a b = 0 ∨ sCmp a b = 1 := by
  unfold sCmp
  split
  · exact .inl rfl
  · split
    · exact .inr (.inl rfl)
    · exact .inr (.inr rfl)
theorem cmpL_three : ∀ a b : List ByteArray, cmpL a b = -1 ∨ cmpL a b = 0 ∨ cmpL a b = 1
  | [], [] => .inr (.inl rfl)
  | [], _ :: _ => .inl rfl
  | _ :: _, [] => .inr (.inr rfl)
  | x :: xs, y :: ys => by
    unfold cmpL
    split
    · exact cmpL_three xs ys
    · exact sCmp_three x y
/-- the steps of a check -/
theorem stepN_fit {pre : List Nr} {x : Nr} (h : fitN x ≠ 0) : stepN pre x = fitN x := by unfold stepN; rw [if_pos h]
theorem stepN_first {x : Nr} (h : fitN x = 0) : stepN [] x = if thereN [] (parentP x.at_) = false then 7 else 0 := by
  unfold stepN
  rw [if_neg (by omega)]
  rfl
theorem stepN_next {pre : List Nr} {y x : Nr} (hy : pre.getLast? = some y) (h : fitN x = 0) : stepN pre x = if cmpL (partsP y.at_) (partsP x.at_) ≠ -1 then 4 else if thereN pre (parentP x.at_) = false then 7 else 0 := by
  unfold stepN
  rw [if_neg (by omega), hy]
  simp only [decide_eq_true_eq]
theorem goN_stop {pre r : List Nr} {x : Nr} (h : stepN pre x ≠ 0) : goN pre (x :: r) = stepN pre x := by unfold goN; rw [if_pos h]
theorem goN_step {pre r : List Nr} {x : Nr} (h : stepN pre x = 0) : goN pre (x :: r) = goN (pre ++ [x]) r := by
  conv => lhs; unfold goN
  rw [if_neg (by omega)]
theorem take_last {l : List Nr} {k : Nat} (hk : k < l.length) : (l.take (k + 1)).getLast? = some l[k] := by
  rw [List.take_succ_eq_append_getElem hk, List.getLast?_append]
  rfl
set_option maxRecDepth 100000 in
set_option maxHeartbeats 6400000 in
theorem ncheck_any (l : List Nr) (A : Option Addr) (c : Nat) (w : World) (he : Env w) (hn : NodesA w A l) (hb : ∀ x ∈ l, NrB x) (hl : l.length ≤ 9223372036854775807) :
    Calls Tryd.prog 48 #[.slice A l.length c] w fun e w' => e = .returned (.int .i64 (chkN l)) ∧ Below w.heap.size w w' := by
  have HE := Lib.hid fun W (hb : Below w.heap.size w W) => he.below hb
  have HN := Lib.hid fun W (hb : Below w.heap.size w W) => hn.below hb
  have HB := Lib.hid hb
  clear he hn hb
  by_cases h2 : 200 < l.length
  · have HC := Lib.hid (show chkN l = 2 from if_pos h2)
    have hq : (200 : Int) < (l.length : Int) := by omega
    clear h2
    go_enter Tryd.func48, Tryd.ntmps48
    go_wp2
    go_ret
    exact ⟨ret_int (by rw [HC.out]; rfl), Below.refl _ _⟩
  · have HC := Lib.hid (show chkN l = goN [] l from if_neg h2)
    have hq : ¬ (200 : Int) < (l.length : Int) := by omega
    have hmm := @run_makeMap Tryd.prog
    have hown0 := ownsKV_made w Tryd.prog 9
    have HB0 := Lib.hid ((Below.refl w.heap.size w).alloc (Nat.le_refl _) (.map #[] 0))
    have hz0 : ∀ W, (zeroValue 4).run Tryd.prog W = .ok (.bool false) W := fun W => by kernel_rfl
    have HZ := Lib.hid hz0
    clear hz0
    go_enter Tryd.func48, Tryd.ntmps48
    go_upto_region 3 with fail
    go_wp2_with (refine wpList_kvInsert rfl _ _ _ 136 rfl Tryd.underlying9 Tryd.underlying136 rfl hown0 (by simp) (s := ⟨#[]⟩) rfl (by decide) rfl ?_; intro w1 hown1 hturn1)
    have hb1 : Below w.heap.size w w1 := (Touch.of_turned hturn1).below (w := w.alloc (.map #[] 0)) (B := w.heap.size) (by simp) (fun k hk => by omega) |> fun h => HB0.out.trans h
    have HO1 := Lib.hid hown1
    have HB1 := Lib.hid hb1
    clear hown1 hturn1 hb1 hown0 HB0
    go_loopw [16] (fun i wr => ∃ k : Nat, i = .int .i64 k ∧ k ≤ l.length ∧ goN (l.take k) (l.drop k) = goN [] l ∧ (∀ y ∈ l.take k, fitN y = 0) ∧ ownsKV wr Tryd.prog 9 w.heap.size (setV (folsN (l.take k))) ∧ Below w.heap.size w wr) (fun i _ => l.length - (intOf i).toNat)
    case atStart => exact ⟨0, rfl, Nat.zero_le _, rfl, (fun y hy => by simp at hy), HO1.out, HB1.out⟩
    case round =>
      obtain ⟨k, rfl, hk, hgo, hfit, hown, hbel⟩ := hrel
      have HO := Lib.hid hown
      have HBL := Lib.hid hbel
      clear HO1 HB1 hown
      by_cases hkl : k < l.length
      · have hdr : l.drop k = l[k] :: l.drop (k + 1) := List.drop_eq_getElem_cons hkl
        rw [hdr] at hgo
        have HGO := Lib.hid (HC.out.trans hgo.symm)
        have HTK := Lib.hid (List.take_succ_eq_append_getElem hkl)
        obtain ⟨g, o, rfl, hg, hc⟩ := HN.out wr hbel (by omega)
        have hck := hc k l[k] (List.getElem?_eq_getElem hkl)
        have HCC := Lib.hid hc
        have hbk := HB.out _ (List.getElem_mem hkl)
        have HFT := Lib.hid hfit
        have HPR := Lib.hid fun (m : Nat) (hm : k = m + 1) => (show l[m]? = some (l[m]'(by omega)) from List.getElem?_eq_getElem (by omega))
        have HLA := Lib.hid fun (m : Nat) (hm : k = m + 1) => (by subst hm; exact take_last (by omega) : (l.take k).getLast? = some (l[m]'(by omega)))
        have HMM := Lib.hid fun (m : Nat) (hm : k = m + 1) => (by
          have h1 := HLA.out m hm
          exact hfit _ (List.mem_of_getLast? h1) : fitN (l[m]'(by omega)) = 0)
        have HFO := Lib.hid (fols_there (l.take k))
        have HFL := Lib.hid (fols_len (l.take k))
        have HFS := Lib.hid (fols_snoc (l.take k) l[k])
        have hlt : (l.take k).length ≤ l.length := by rw [List.length_take]; omega
        have HGN := Lib.hid (@goN_step (l.take k) (l.drop (k + 1)) l[k])
        have HGS := Lib.hid (@goN_stop (l.take k) (l.drop (k + 1)) l[k])
        clear hc hdr hgo hfit hbel
        generalize l[k] = x at *
        obtain ⟨v, hcv, hv⟩ := hck
        have hf := fit_any v x wr (HE.out _ HBL.out) hv hbk
        have hk0 : (0 : Int) ≤ (k : Int) := by omega
        have hki : (k : Int) < (l.length : Int) := by omega
        have hk3 : ((k : Int)).toNat = k := by omega
        by_cases hfx : fitN x = 0
        · rw [hfx] at hf
          have HF := Lib.hid hf
          obtain ⟨hkx, hpx, _⟩ := fit_parts hfx
          have hsx := path_size hpx
          obtain ⟨t, u, f, rfl, hme, hcf, hpa, z0, z1, z2, hta⟩ := hv.as_ hkx
          obtain ⟨d1, hd1⟩ : ∃ d1, d1 = decide (x.kind = 1) := ⟨_, rfl⟩
          rw [← hd1] at hta
          have HD1 := Lib.hid hd1
          clear hd1
          have HPA := Lib.hid hpa
          have HPP := Lib.hid fun W => pparent_any x.at_ W (by omega)
          have HSF := Lib.hid fun (h : l.take k = []) => (by rw [h]; exact stepN_first hfx : stepN (l.take k) x = if thereN [] (parentP x.at_) = false then 7 else 0)
          have HSN := Lib.hid fun y (hy : (l.take k).getLast? = some y) => stepN_next hy hfx
          clear hf hv hbk hkx hpx hpa
          have hpz : (parentP x.at_).size ≤ 9223372036854775807 := by
            unfold parentP
            rw [ByteArray.size_extract]
            omega
          go_wp2_with fail
          refine HF.out.mono ?_
          rintro e w2 ⟨rfl, hb2⟩
          have HB2 := Lib.hid (HBL.out.trans (hb2.mono HBL.out.size))
          have HO2 := Lib.hid (ownsKV_block HO.out (hb2.block _ (ownsKV_lt HO.out)))
          have HW2 := Lib.hid hb2
          clear hb2
          go_upto_region 10 with fail
          go_cut [39] (fun v wc => ∃ bb : Bool, v = .bool bb ∧ (bb = true → stepN (l.take k) x = 4) ∧ (bb = false → stepN (l.take k) x = if thereN (l.take k) (parentP x.at_) = false then 7 else 0) ∧ ownsKV wc Tryd.prog 9 w.heap.size (setV (folsN (l.take k))) ∧ Below w.heap.size w wc)
          case first =>
            by_cases hk00 : k = 0
            · have hq0 : ¬ (0 : Int) < (k : Int) := by omega
              have HS0 := Lib.hid (show stepN (l.take k) x = if thereN (l.take k) (parentP x.at_) = false then 7 else 0 by
                have h0 : l.take k = [] := by rw [hk00]; rfl
                rw [HSF.out h0, h0])
              clear hk00
              go_wp2
              go_meet
              exact ⟨false, rfl, (fun h => by cases h), fun _ => HS0.out, HO2.out, HB2.out⟩
            · obtain ⟨m, hm⟩ : ∃ m, k = m + 1 := ⟨k - 1, by omega⟩
              have hq0 : (0 : Int) < (k : Int) := by omega
              have hq1 : (k : Int) - 1 = (m : Int) := by omega
              have hq2 : (0 : Int) ≤ (m : Int) := by omega
              have hq3 : (m : Int) < (l.length : Int) := by omega
              have hq4 : ((m : Int)).toNat = m := by omega
              have hpr := HPR.out m hm
              have hla := HLA.out m hm
              have hfy := HMM.out m hm
              clear hk00 HPR HLA HMM
              generalize l[m]'(by omega) = y at *
              obtain ⟨v', hcv', hv'⟩ := HCC.out m y hpr
              obtain ⟨hky, hpy, _⟩ := fit_parts hfy
              have hsy := path_size hpy
              obtain ⟨t', u', f', rfl, hme', hcf', hpa', _⟩ := hv'.as_ hky
              have HPA' := Lib.hid hpa'
              have HCM := Lib.hid fun W (h : Env W) => pcompare_any y.at_ x.at_ W h (by omega) (by omega)
              have hc2 : w2.cell? ⟨g, o + m, none⟩ = some (.iface t' u') := (HW2.out.cell (p := ⟨g, o + m, none⟩) hg).trans hcv'
              have HNX := Lib.hid (HSN.out y hla)
              clear hv' hky hpy hpa' hpr hla hfy hcv' hm
              go_wp2_with fail
              refine (HPA'.out _).mono ?_
              rintro e w3 ⟨rfl, hb3⟩
              have HB3 := Lib.hid (HB2.out.trans (hb3.mono HB2.out.size))
              have HO3 := Lib.hid (ownsKV_block HO2.out (hb3.block _ (ownsKV_lt HO2.out)))
              clear hb3
              go_wp2_with fail
              refine (HPA.out _).mono ?_
              rintro e w4 ⟨rfl, hb4⟩
              have HB4 := Lib.hid (HB3.out.trans (hb4.mono HB3.out.size))
              have HO4 := Lib.hid (ownsKV_block HO3.out (hb4.block _ (ownsKV_lt HO3.out)))
              clear hb4
              go_wp2_with fail
              refine (HCM.out _ (HE.out _ HB4.out)).mono ?_
              rintro e w5 ⟨rfl, hb5⟩
              have HB5 := Lib.hid (HB4.out.trans (hb5.mono HB4.out.size))
              have HO5 := Lib.hid (ownsKV_block HO4.out (hb5.block _ (ownsKV_lt HO4.out)))
              clear hb5
              have h3 := cmpL_three (partsP y.at_) (partsP x.at_)
              generalize cmpL (partsP y.at_) (partsP x.at_) = cv at *
              rcases h3 with rfl | rfl | rfl
              · go_wp2
                go_meet
                exact ⟨false, rfl, (fun h => by cases h), fun _ => HNX.out.trans (if_neg (by simp)), HO5.out, HB5.out⟩
              · go_wp2
                go_meet
                exact ⟨true, rfl, (fun _ => HNX.out.trans (if_pos (by decide))), (fun h => by cases h), HO5.out, HB5.out⟩
              · go_wp2
                go_meet
                exact ⟨true, rfl, (fun _ => HNX.out.trans (if_pos (by decide))), (fun h => by cases h), HO5.out, HB5.out⟩
          case rest =>
            obtain ⟨bb, rfl, hb4, hb0, hown3, hb3⟩ := hcut
            have HO3 := Lib.hid hown3
            have HB3 := Lib.hid hb3
            have HS4 := Lib.hid hb4
            have HS0 := Lib.hid hb0
            clear hown3 hb3 hb4 hb0 HB2 HO2 HW2 HSF HSN
            cases bb with
            | true =>
              have HX := Lib.hid (show chkN l = 4 by rw [HGO.out, HGS.out (by rw [HS4.out rfl]; decide), HS4.out rfl])
              go_wp2
              go_ret
              exact ⟨ret_int (by rw [HX.out]; rfl), HB3.out⟩
            | false =>
              have HS := Lib.hid (HS0.out rfl)
              have hge := (setV_get (folsN (l.take k)) (parentP x.at_)).trans (by rw [HFO.out])
              have HGE := Lib.hid hge
              clear hge HS0 HS4
              go_wp2_with fail
              refine (HPA.out _).mono ?_
              rintro e w4 ⟨rfl, hb4⟩
              have HB4 := Lib.hid (HB3.out.trans (hb4.mono HB3.out.size))
              have HO4 := Lib.hid (ownsKV_block HO3.out (hb4.block _ (ownsKV_lt HO3.out)))
              clear hb4
              go_wp2_with fail
              refine (HPP.out _).mono ?_
              rintro e w5 ⟨rfl, rfl⟩
              cases hth : thereN (l.take k) (parentP x.at_) with
              | false =>
                rw [hth] at HGE
                have HX := Lib.hid (show chkN l = 7 by
                  have h7 : stepN (l.take k) x = 7 := HS.out.trans (if_pos hth)
                  rw [HGO.out, HGS.out (by rw [h7]; decide), h7])
                clear hth
                go_wp2_with (at_lookup; refine wpList_kvGet rfl _ _ 136 rfl Tryd.underlying9 Tryd.underlying136 (HZ.out _) rfl HO4.out rfl (by unfold maxLen; omega) HGE.out ?_)
                go_ret
                exact ⟨ret_int (by rw [HX.out]; rfl), HB4.out⟩
              | true =>
                rw [hth] at HGE
                have HG1 := Lib.hid (HGN.out (HS.out.trans (if_neg (by rw [hth]; simp))))
                have HF0 := Lib.hid (show ∀ y ∈ l.take (k + 1), fitN y = 0 from fun y hy => by
                  rw [HTK.out, List.mem_append, List.mem_singleton] at hy
                  rcases hy with hy | rfl
                  · exact HFT.out y hy
                  · exact hfx)
                clear hth
                have HB6 := Lib.hid (HB4.out.alloc HB4.out.size (.cells #[.string z0, .int .i64 z1, .int .i64 z2] 26))
                have HO6 := Lib.hid (ownsKV_block HO4.out (Below.heap_alloc w4 (.cells #[.string z0, .int .i64 z1, .int .i64 z2] 26) _ (ownsKV_lt HO4.out)))
                have HTK2 := HTK
                cases d1 with
                | true =>
                  have HSS := Lib.hid (show setV (folsN (l.take (k + 1))) = kvPut (setV (folsN (l.take k))) x.at_ (.bool true) by rw [HTK.out, HFS.out, if_pos (of_decide_eq_true HD1.out.symm), setV_snoc])
                  go_wp2_with (at_lookup; refine wpList_kvGet rfl _ _ 136 rfl Tryd.underlying9 Tryd.underlying136 (HZ.out _) rfl HO4.out rfl (by unfold maxLen; omega) HGE.out ?_)
                  refine (HPA.out _).mono ?_
                  rintro e w7 ⟨rfl, hb7⟩
                  have HB7 := Lib.hid (HB6.out.trans (hb7.mono HB6.out.size))
                  have HO7 := Lib.hid (ownsKV_block HO6.out (hb7.block _ (ownsKV_lt HO6.out)))
                  clear hb7
                  have hsl := setV_len (folsN (l.take k))
                  have hfl := HFL.out
                  go_wp2_with (at_mapUpdate; refine wpList_kvStore rfl _ _ _ 136 rfl Tryd.underlying9 Tryd.underlying136 rfl HO7.out (by omega) rfl (by unfold maxLen; omega) rfl ?_; intro w8 hown8 hturn8)
                  have HO8 := Lib.hid hown8
                  have HB8 := Lib.hid (HB7.out.trans ((Touch.of_turned hturn8).below (B := w.heap.size) HB7.out.size (fun k hk => by omega)))
                  clear hown8 hturn8 hsl hfl
                  go_wp2
                  go_roundw
                  case rel => exact ⟨k + 1, by go_num, by omega, by rw [HTK2.out, ← HG1.out, HGO.out.symm]; exact HC.out, HF0.out, by rw [HSS.out]; exact HO8.out, HB8.out⟩
                  case measure => simp [intOf]; omega
                | false =>
                  have HSS := Lib.hid (show setV (folsN (l.take (k + 1))) = setV (folsN (l.take k)) by rw [HTK.out, HFS.out, if_neg (of_decide_eq_false HD1.out.symm)])
                  go_wp2_with (at_lookup; refine wpList_kvGet rfl _ _ 136 rfl Tryd.underlying9 Tryd.underlying136 (HZ.out _) rfl HO4.out rfl (by unfold maxLen; omega) HGE.out ?_)
                  go_roundw
                  case rel => exact ⟨k + 1, by go_num, by omega, by rw [HTK2.out, ← HG1.out, HGO.out.symm]; exact HC.out, HF0.out, by rw [HSS.out]; exact HO6.out, HB6.out⟩
                  case measure => simp [intOf]; omega
        · have hne : (((fitN x : Nat) : Int) != 0) = true := by rw [bne_iff_ne]; omega
          have HF := Lib.hid hf
          have HX := Lib.hid (show chkN l = fitN x by rw [HGO.out, HGS.out (by rw [stepN_fit hfx]; exact hfx), stepN_fit hfx])
          clear hf hv hbk
          go_wp2_with fail
          refine HF.out.mono ?_
          rintro e w2 ⟨rfl, hb2⟩
          go_wp2
          go_ret
          exact ⟨ret_int (by rw [HX.out]), HBL.out.trans (hb2.mono HBL.out.size)⟩
      · obtain rfl : k = l.length := by omega
        rw [List.drop_length] at hgo
        have HX := Lib.hid (show chkN l = 0 from HC.out.trans hgo.symm)
        clear hgo hfit
        go_wp2
        go_ret
        exact ⟨ret_int (by rw [HX.out]; rfl), HBL.out⟩
end Go.Proofs.YtaoejgnfoecpfaaDoor
