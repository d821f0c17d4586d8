/- A range over a map with string keys. Maps with string keys: a look-up with one value; a literal's entry; sets of texts. walk.Check, walked. A tree's items: what a check says: the plain law. -/
import Derived.Test.YtaoejgnfoecpfaaDoorJu1
import Derived.Maps.RangeWalk
import Derived.Test.YtaoejgnfoecpfaaDoorJu9
import Derived.Test.YtaoejgnfoecpfaaDoorJu11
import Derived.Deep.DeepCutAuto
namespace Go.Proofs.YtaoejgnfoecpfaaDoor
set_option linter.unusedVariables false
set_option linter.unusedSimpArgs false
set_option linter.unusedSectionVars false
open Go.RowKit Go.Maps

/-- a loop over block b's map l is under way: todo is still to come (cnt entries) -/
def rangesKV (w : World) (P : Program) (k : TypeId) (b r : Nat) (l todo : List (ByteArray × Value)) (cnt : Nat) : Prop :=
  ∃ left, w.ranges P k heldR b r l.length (toD l) left cnt ∧ todo = l.filter fun p => left (.string p.1.data.toList)

/-- no key twice -/
def kvApart {α : Type} (l : List (ByteArray × α)) : Prop := l.Pairwise fun p q => p.1 ≠ q.1

theorem ownsKV_apart {w : World} {P : Program} {k : TypeId} {b : Nat} {l : List (ByteArray × Value)} (hk : P.underlying k = some .string) (h : ownsKV w P k b l) : kvApart l := by
  obtain ⟨es, hes, hp, _⟩ := World.ownsMap.entries h (string_keyed hk)
  simp only [toD, DataW.map.injEq] at hes
  subst hes
  rw [List.pairwise_map] at hp
  exact hp.imp fun {p q} h e => h (by rw [e])

theorem kvGet_mem {α : Type} {l : List (ByteArray × α)} {k : ByteArray} {v : α} (h : kvGet l k = some v) : (k, v) ∈ l := by
  unfold kvGet at h
  cases hf : l.find? (fun p => decide (p.1 = k)) with
  | none => simp [hf] at h
  | some p =>
    have h1 := List.mem_of_find?_eq_some hf
    have h2 := List.find?_some hf
    simp [hf] at h h2
    subst h h2
    exact h1

theorem kvGet_of_mem {α : Type} {l : List (ByteArray × α)} {k : ByteArray} {v : α} (ha : kvApart l) (h : (k, v) ∈ l) : kvGet l k = some v := by
  induction l with
  | nil => cases h
  | cons x r ih =>
    unfold kvGet
    rw [List.find?_cons]
    have ha' := List.pairwise_cons.1 ha
    rcases List.mem_cons.1 h with e | e
    · subst e; simp
    · have : x.1 ≠ k := ha'.1 _ e
      simp [this]
      simpa [kvGet] using ih ha'.2 e

section
variable {P : Program} {w : World} {ops : Array Oper} {rest : List Oper} {o : Oper} {a : Act} {Q : Exit → Act → World → Prop}

theorem wpList_kvRange (hg : o.guard = none) (m : Operand) (t : TypeId) (hop : o.op = Op.range t m) {k e : TypeId} (hk : P.underlying k = some .string) (ht : P.underlying t = some (.map k e)) {b : Nat} {l : List (ByteArray × Value)}
    (hm : a.eval m = .map (some b)) (hown : ownsKV w P k b l)
    (hK : ∀ w' cnt, rangesKV w' P k b w.heap.size l l cnt → Below w.heap.size w w' → w'.heap.size = w.heap.size + 1 → wpList P ops Q rest (a.put o.dst (.pointer (some ⟨w.heap.size, 0, none⟩))) w') :
    wpList P ops Q (o :: rest) a w := by
  refine wpList_range_own w hg m t hop k e (string_keyed hk) ht heldR b l.length (toD l) hm hown ?_
  intro w' h1 h2 h3
  refine hK w' _ ⟨_, h1, ?_⟩ ⟨h2.os, h2.tape, h2.output, h2.size, fun i hi => h2.block i hi (by simp)⟩ h3
  symm
  rw [List.filter_eq_self]
  intro p hp
  simp only [Maps.has, toD, List.any_map, Function.comp_def, key_same]
  exact List.any_eq_true.2 ⟨p, hp, by simp⟩

theorem wpList_kvNext (hg : o.guard = none) (it : Operand) (hop : o.op = Op.next it false) {k : TypeId} (hk : P.underlying k = some .string) {b r : Nat} {l todo : List (ByteArray × Value)} {cnt : Nat}
    (hit : a.eval it = .pointer (some ⟨r, 0, none⟩)) (h : rangesKV w P k b r l todo cnt)
    (hDone : todo = [] → wpList P ops Q rest (a.put o.dst (.tuple #[.bool false])) w)
    (hMore : ∀ (s : ByteArray) (v : Value) (w' : World) (cnt' : Nat), (s, v) ∈ todo → s.size ≤ maxLen → rangesKV w' P k b r l (kvDel todo s) cnt' → cnt' < cnt →
      w.grownBy w' (some r) → w'.heap.size = w.heap.size → (Instr.entry (.pointer (some ⟨r, 0, none⟩))).run P w' = .ok (.tuple #[.string s, v]) w' → wpList P ops Q rest (a.put o.dst (.tuple #[.bool true, .string s, v])) w') :
    wpList P ops Q (o :: rest) a w := by
  obtain ⟨left, hr, rfl⟩ := h
  refine wpList_next_ranges (α := ByteArray) (β := Value) w hg it hop k (string_keyed hk) heldR (fun s => .string s) id (fun key kl hkey => ?_) (fun v y _ => ⟨v, rfl⟩) b r l.length (toD l) left cnt hit hr ?_ ?_
  · cases key <;> simp [keyOf, hk, mapKey] at hkey
    exact ⟨_, rfl⟩
  · intro _ hl
    exact hDone (by rw [List.filter_eq_nil_iff]; intro p _; simp [hl])
  · intro s v kl y w' cnt' hkey hlk hv hat hrg hlt hgr hsz hen
    have hkl : kl = .string s.data.toList ∧ s.size ≤ maxLen := by
      simp [keyOf, hk, mapKey] at hkey
      exact ⟨hkey.2.symm, hkey.1⟩
    obtain ⟨rfl, hsl⟩ := hkl
    have hget : kvGet l s = some v := by
      have h1 := hat (.held (.bool true))
      have h2 := hat (.held (.bool false))
      rw [toD_at] at h1 h2
      simp [heldR] at hv
      subst hv
      cases hg : kvGet l s with
      | none => simp [hg] at h1 h2; rw [← h1] at h2; cases h2
      | some u => simp [hg] at h1; rw [h1]
    refine hMore s v w' cnt' ?_ hsl ⟨_, hrg, ?_⟩ hlt hgr hsz hen
    · exact List.mem_filter.2 ⟨kvGet_mem hget, hlk⟩
    · simp only [kvDel, List.filter_filter, key_same]
      refine List.filter_congr fun p _ => ?_
      simp [Bool.and_comm]
end

theorem rangesKV.size {w : World} {P : Program} {k : TypeId} {b r : Nat} {l todo : List (ByteArray × Value)} {cnt : Nat} (h : rangesKV w P k b r l todo cnt) : w.rangeLeft b r = cnt := by
  obtain ⟨left, hr, _⟩ := h; exact hr.left_eq
theorem rangesKV.owns {w : World} {P : Program} {k : TypeId} {b r : Nat} {l todo : List (ByteArray × Value)} {cnt : Nat} (h : rangesKV w P k b r l todo cnt) : ownsKV w P k b l := by
  obtain ⟨left, hr, _⟩ := h; exact hr.owns
theorem rangesKV.keep {w w' : World} {P : Program} {k : TypeId} {b r : Nat} {l todo : List (ByteArray × Value)} {cnt : Nat} (h : rangesKV w P k b r l todo cnt) (h1 : w'.heap[b]? = w.heap[b]?) (h2 : w'.heap[r]? = w.heap[r]?) : rangesKV w' P k b r l todo cnt := by
  obtain ⟨left, ⟨es, clock, since, seen, c0, hb, F, hs, hD, hr, rest⟩, ht⟩ := h
  exact ⟨left, ⟨es, clock, since, seen, c0, h1.trans hb, F, hs, hD, h2.trans hr, rest⟩, ht⟩

theorem rangesKV.sub {w : World} {P : Program} {k : TypeId} {b r : Nat} {l todo : List (ByteArray × Value)} {cnt : Nat} (h : rangesKV w P k b r l todo cnt) : ∀ p ∈ todo, p ∈ l := by
  obtain ⟨left, _, rfl⟩ := h; exact fun p hp => (List.mem_filter.1 hp).1
theorem rangesKV.apart {w : World} {P : Program} {k : TypeId} {b r : Nat} {l todo : List (ByteArray × Value)} {cnt : Nat} (h : rangesKV w P k b r l todo cnt) (ha : kvApart l) : kvApart todo := by
  obtain ⟨left, _, rfl⟩ := h; exact ha.filter _

/-- what a sum over a list loses with one entry -/
def kvSum {α : Type} (f : α → Nat) (l : List (ByteArray × α)) : Nat := (l.map fun p => f p.2).sum
theorem kvDel_noop {α : Type} {l : List (ByteArray × α)} {k : ByteArray} (h : ∀ p ∈ l, p.1 ≠ k) : kvDel l k = l := by
  unfold kvDel; rw [List.filter_eq_self]; intro p hp; simp [h p hp]
theorem kvSum_del {α : Type} (f : α → Nat) {l : List (ByteArray × α)} {k : ByteArray} {v : α} (ha : kvApart l) (h : (k, v) ∈ l) : kvSum f l = f v + kvSum f (kvDel l k) := by
  induction l with
  | nil => cases h
  | cons x r ih =>
    have ha' := List.pairwise_cons.1 ha
    rcases List.mem_cons.1 h with e | e
    · subst e
      have : kvDel ((k, v) :: r) k = r := by
        have := kvDel_noop (l := r) (k := k) (fun p hp => (ha'.1 p hp).symm)
        simpa [kvDel] using this
      rw [this]; simp [kvSum]
    · have hx : x.1 ≠ k := ha'.1 _ e
      have hd : kvDel (x :: r) k = x :: kvDel r k := by simp [kvDel, hx]
      rw [hd]
      have := ih ha'.2 e
      simp only [kvSum, List.map_cons, List.sum_cons] at this ⊢
      omega
theorem kvApart_del {α : Type} {l : List (ByteArray × α)} (k : ByteArray) (h : kvApart l) : kvApart (kvDel l k) := h.filter _
theorem kvApart_map {α β : Type} {f : α → β} {l : List (ByteArray × α)} : kvApart (kvMap f l) ↔ kvApart l := by
  unfold kvApart kvMap; rw [List.pairwise_map]

theorem kvIns_perm {α : Type} (x : ByteArray × α) (l : List (ByteArray × α)) : (kvIns x l).Perm (x :: l) := by
  induction l with
  | nil => exact List.Perm.refl _
  | cons y r ih =>
    unfold kvIns
    split
    · exact List.Perm.refl _
    · exact (List.Perm.cons y ih).trans (List.Perm.swap x y r)
theorem kvDel_no {α : Type} {l : List (ByteArray × α)} {k : ByteArray} : ∀ p ∈ kvDel l k, p.1 ≠ k := by
  intro p hp
  have := (List.mem_filter.1 hp).2
  simpa using this
theorem kvPut_perm {α : Type} (l : List (ByteArray × α)) (k : ByteArray) (v : α) : (kvPut l k v).Perm ((k, v) :: kvDel l k) := kvIns_perm _ _
theorem kvPut_mem {α : Type} {l : List (ByteArray × α)} {k : ByteArray} {v : α} {p : ByteArray × α} (h : p ∈ kvPut l k v) : p = (k, v) ∨ p ∈ l := by
  rcases List.mem_cons.1 ((kvPut_perm l k v).mem_iff.1 h) with h | h
  · exact Or.inl h
  · exact Or.inr (List.mem_filter.1 h).1
theorem kvDel_mem {α : Type} {l : List (ByteArray × α)} {k : ByteArray} {p : ByteArray × α} (h : p ∈ kvDel l k) : p ∈ l := (List.mem_filter.1 h).1
theorem kvDel_len {α : Type} (l : List (ByteArray × α)) (k : ByteArray) : (kvDel l k).length ≤ l.length := List.length_filter_le _ _
theorem kvPut_len {α : Type} (l : List (ByteArray × α)) (k : ByteArray) (v : α) : (kvPut l k v).length ≤ l.length + 1 := by
  rw [(kvPut_perm l k v).length_eq]; simp; exact kvDel_len l k
theorem kvApart_put {α : Type} {l : List (ByteArray × α)} (k : ByteArray) (v : α) (h : kvApart l) : kvApart (kvPut l k v) := by
  unfold kvApart
  refine ((kvPut_perm l k v).pairwise_iff (fun {_ _} h => Ne.symm h)).2 (List.pairwise_cons.2 ⟨fun p hp => (kvDel_no p hp).symm, kvApart_del k h⟩)
theorem kvMap_congr {α β : Type} {f g : α → β} {l : List (ByteArray × α)} (h : ∀ p ∈ l, f p.2 = g p.2) : kvMap f l = kvMap g l := by
  unfold kvMap; exact List.map_congr_left fun p hp => by rw [h p hp]
theorem kvDel_len_lt {α : Type} {l : List (ByteArray × α)} {k : ByteArray} {v : α} (h : kvGet l k = some v) : (kvDel l k).length + 1 ≤ l.length := by
  have hm := kvGet_mem h
  clear h
  induction l with
  | nil => cases hm
  | cons x r ih =>
    by_cases e : x.1 = k
    · have : kvDel (x :: r) k = kvDel r k := by simp [kvDel, e]
      rw [this]; simp; exact kvDel_len r k
    · have hd : kvDel (x :: r) k = x :: kvDel r k := by simp [kvDel, e]
      rw [hd]; simp
      rcases List.mem_cons.1 hm with e' | e'
      · exact absurd (by rw [← e']) e
      · exact ih e'
end Go.Proofs.YtaoejgnfoecpfaaDoor
namespace Go.Proofs.YtaoejgnfoecpfaaDoor
set_option linter.unusedVariables false
set_option linter.unusedSimpArgs false
set_option linter.unusedSectionVars false
open Go.RowKit Go.Maps

section
variable {P : Program} {w : World} {ops : Array Oper} {rest : List Oper} {o : Oper} {a : Act} {Q : Exit → Act → World → Prop}
theorem wpList_kvInsert (hg : o.guard = none) (m x v : Operand) (t : TypeId) (hop : o.op = Op.insert t m x v)
    {k e : TypeId} (hk : P.underlying k = some .string) (ht : P.underlying t = some (.map k e)) {b : Nat} {l : List (ByteArray × Value)}
    (hm : a.eval m = .map (some b)) (hown : ownsKV w P k b l) (hn : l.length < 1099511627776) {s : ByteArray} {u : Value} (hx : a.eval x = .string s) (hs : s.size ≤ maxLen) (hv : a.eval v = u)
    (hK : ∀ w', ownsKV w' P k b (kvPut l s u) → w.mapTurned w' b → wpList P ops Q rest (a.put o.dst undef) w') :
    wpList P ops Q (o :: rest) a w := by
  refine wpList_plain hg fun K' hK' => ?_
  obtain ⟨w', hrun, r1, r2⟩ := World.ownsMap.store hown (string_keyed hk) ht (by unfold maxLen; omega) (WideMaps.keyOf_string_mk hk hs) (val := u) (d := .held u) (ps := []) rfl
  unfold Oper.wp
  simp [execOp, hop, hm, hx, hv, hrun, Result.andThen]
  rw [toD_put] at r1
  exact hK' _ _ (hK w' (ownsKV_of r1) r2)
theorem wpList_kvGet (hg : o.guard = none) (m x : Operand) (t : TypeId) (hop : o.op = Op.lookup t m x false)
    {k e : TypeId} (hk : P.underlying k = some .string) (ht : P.underlying t = some (.map k e)) {z : Value} (hz : (zeroValue e).run P w = .ok z w) {b : Nat} {l : List (ByteArray × Value)}
    (hm : a.eval m = .map (some b)) (hown : ownsKV w P k b l) {s : ByteArray} (hx : a.eval x = .string s) (hs : s.size ≤ maxLen) {v : Value} (hv : (kvGet l s).getD z = v)
    (hK : wpList P ops Q rest (a.put o.dst v) w) :
    wpList P ops Q (o :: rest) a w := by
  refine wpList_plain hg fun K' hK' => ?_
  obtain ⟨u, ps, hrun, hu⟩ := World.ownsMap.lookup hown (string_keyed hk) ht hz (zd := .held z) (zp := []) rfl (WideMaps.keyOf_string_mk hk hs)
  unfold Oper.wp
  simp [execOp, hop, hm, hx, hrun, Result.andThen]
  rw [toD_at, hv] at hu
  simp [heldR] at hu
  obtain ⟨rfl, _⟩ := hu
  exact hK' _ _ hK
end
theorem kvGet_ins {α : Type} (x : ByteArray × α) (k : ByteArray) : ∀ (l : List (ByteArray × α)), (∀ p ∈ l, p.1 ≠ x.1) → kvGet (kvIns x l) k = if x.1 = k then some x.2 else kvGet l k
  | [], _ => by
    unfold kvIns kvGet
    by_cases h : x.1 = k <;> simp [h]
  | y :: r, h => by
    unfold kvIns
    split
    · unfold kvGet
      by_cases hk : x.1 = k <;> simp [hk]
    · have ih := kvGet_ins x k r (fun p hp => h p (by simp [hp]))
      have hy := h y (by simp)
      unfold kvGet at ih ⊢
      by_cases hyk : y.1 = k
      · have hx : ¬ x.1 = k := fun e => hy (hyk.trans e.symm)
        simp [hyk, hx]
      · rw [List.find?_cons_of_neg (by simpa using hyk), List.find?_cons_of_neg (by simpa using hyk)]
        exact ih
theorem kvGet_del {α : Type} (l : List (ByteArray × α)) (k j : ByteArray) (h : k ≠ j) : kvGet (kvDel l k) j = kvGet l j := by
  unfold kvGet kvDel
  rw [List.find?_filter]
  congr 2
  funext p
  by_cases hp : p.1 = j
  · have : p.1 ≠ k := fun e => h (e.symm.trans hp)
    simp [hp]
    exact fun e => h e.symm
  · simp [hp]
theorem kvGet_put' {α : Type} (l : List (ByteArray × α)) (k : ByteArray) (v : α) (j : ByteArray) : kvGet (kvPut l k v) j = if k = j then some v else kvGet l j := by
  unfold kvPut
  rw [kvGet_ins (k, v) j (kvDel l k) (fun p hp => by unfold kvDel at hp; simpa using (List.mem_filter.1 hp).2)]
  by_cases h : k = j
  · simp only; rw [if_pos h, if_pos h]
  · simp only; rw [if_neg h, if_neg h, kvGet_del l k j h]
/-- a set of texts, as a map that says true -/
def setV (l : List ByteArray) : List (ByteArray × Value) := l.foldl (fun m k => kvPut m k (.bool true)) []
theorem setV_snoc (l : List ByteArray) (k : ByteArray) : setV (l ++ [k]) = kvPut (setV l) k (.bool true) := by unfold setV; rw [List.foldl_append]; rfl
theorem setV_gen : ∀ (l : List ByteArray) (m : List (ByteArray × Value)) (P : List ByteArray), (∀ j, (kvGet m j).getD (.bool false) = .bool (P.any fun x => decide (x = j))) → ∀ j, (kvGet (l.foldl (fun m k => kvPut m k (.bool true)) m) j).getD (.bool false) = .bool ((P ++ l).any fun x => decide (x = j))
  | [], m, P, h, j => by rw [List.append_nil]; exact h j
  | k :: r, m, P, h, j => by
    have e : P ++ k :: r = (P ++ [k]) ++ r := by simp
    rw [e]
    refine setV_gen r (kvPut m k (.bool true)) (P ++ [k]) (fun i => ?_) j
    rw [kvGet_put']
    by_cases hk : k = i
    · subst hk
      rw [if_pos rfl]
      simp
    · rw [if_neg hk, h i]
      congr 1
      rw [List.any_append]
      simp [hk]
theorem setV_get (l : List ByteArray) (j : ByteArray) : (kvGet (setV l) j).getD (.bool false) = .bool (l.any fun x => decide (x = j)) := by
  have := setV_gen l [] [] (fun j => rfl) j
  rwa [List.nil_append] at this
theorem kvPut_lenX {α : Type} (l : List (ByteArray × α)) (k : ByteArray) (v : α) : (kvPut l k v).length ≤ l.length + 1 := by
  have hi : ∀ (x : ByteArray × α) (l : List (ByteArray × α)), (kvIns x l).length = l.length + 1 := by
    intro x l
    induction l with
    | nil => rfl
    | cons y r ih => unfold kvIns; split <;> simp [ih]
  unfold kvPut
  rw [hi]
  have := List.length_filter_le (fun p : ByteArray × α => decide (p.1 ≠ k)) l
  unfold kvDel
  omega
theorem setV_len (l : List ByteArray) : (setV l).length ≤ l.length := by
  have hg : ∀ (l : List ByteArray) (m : List (ByteArray × Value)), (l.foldl (fun m k => kvPut m k (.bool true)) m).length ≤ m.length + l.length := by
    intro l
    induction l with
    | nil => intro m; simp
    | cons k r ih =>
      intro m
      simp only [List.foldl_cons, List.length_cons]
      have h1 := ih (kvPut m k (.bool true))
      have h2 := kvPut_lenX m k (Value.bool true)
      omega
  have := hg l []
  rw [List.length_nil, Nat.zero_add] at this
  exact this
end Go.Proofs.YtaoejgnfoecpfaaDoor
namespace Go.Proofs.YtaoejgnfoecpfaaDoor
set_option linter.unusedVariables false
set_option linter.unusedSimpArgs false
set_option linter.unusedSectionVars false
open Go.RowKit

def fitsE : List Itm → Nat
  | [] => 0
  | x :: r => if fitI x ≠ 0 then fitI x else fitsE r
def thereI (pre : List Itm) (p : ByteArray) : Bool := decide (p.size = 0) || pre.any fun y => decide (y.kind = 1) && decide (y.path = p)
def lastIs (pre : List Itm) (p : ByteArray) : Bool := match pre.getLast? with | some y => decide (y.path = p) | none => false
def stepI (pre : List Itm) (x : Itm) : Nat := if lastIs pre x.path = true then 8 else if thereI pre (parentP x.path) = false then 7 else 0
def goI : List Itm → List Itm → Nat
  | _, [] => 0
  | pre, x :: r => if stepI pre x ≠ 0 then stepI pre x else goI (pre ++ [x]) r
/-- what a check tells: of a row put in order -/
def ChkR (l : List Itm) (e : Nat) : Prop := (200 < l.length ∧ e = 2) ∨ (l.length ≤ 200 ∧ fitsE l ≠ 0 ∧ e = fitsE l) ∨ (l.length ≤ 200 ∧ fitsE l = 0 ∧ ∃ ys, ys.Perm l ∧ SortedI ys ∧ e = goI [] ys)
theorem goI_step {pre r : List Itm} {x : Itm} (h : stepI pre x = 0) : goI pre (x :: r) = goI (pre ++ [x]) r := by
  conv => lhs; unfold goI
  rw [if_neg (by omega)]
theorem goI_stop {pre r : List Itm} {x : Itm} (h : stepI pre x ≠ 0) : goI pre (x :: r) = stepI pre x := by unfold goI; rw [if_pos h]
theorem fits_all : ∀ (l : List Itm), fitsE l = 0 → ∀ x ∈ l, fitI x = 0
  | [], _, x, hx => by cases hx
  | y :: r, h, x, hx => by
    unfold fitsE at h
    split at h
    · next h1 => exact absurd h h1
    · next h1 =>
      rcases List.mem_cons.1 hx with rfl | hx
      · omega
      · exact fits_all r h x hx
theorem fits_none : ∀ (l : List Itm), (∀ x ∈ l, fitI x = 0) → fitsE l = 0
  | [], _ => rfl
  | y :: r, h => by
    unfold fitsE
    rw [if_neg (by rw [h y (by simp)]; simp)]
    exact fits_none r fun x hx => h x (by simp [hx])
theorem fit_path_ok {x : Itm} (h : fitI x = 0) : isPath x.path = true := by
  unfold fitI at h
  split at h
  · cases h
  · split at h
    · cases h
    · next h1 => simpa using h1
theorem snoc_rec {α : Type} {p : List α → Prop} (h0 : p []) (h1 : ∀ l x, p l → p (l ++ [x])) (l : List α) : p l := by
  have h : ∀ r : List α, p r.reverse := fun r => by
    induction r with
    | nil => exact h0
    | cons x r ih =>
      rw [List.reverse_cons]
      exact h1 _ _ ih
  have h2 := h l.reverse
  rwa [List.reverse_reverse] at h2
/-- the map of folders -/
def mapI (pre : List Itm) : List (ByteArray × Value) := pre.foldl (fun m x => kvPut m x.path (.bool (decide (x.kind = 1)))) (kvPut [] ⟨#[]⟩ (.bool true))
theorem mapI_snoc (pre : List Itm) (x : Itm) : mapI (pre ++ [x]) = kvPut (mapI pre) x.path (.bool (decide (x.kind = 1))) := by
  unfold mapI
  rw [List.foldl_append]
  rfl
theorem mapI_len (pre : List Itm) : (mapI pre).length ≤ pre.length + 1 := by
  refine snoc_rec (p := fun pre => (mapI pre).length ≤ pre.length + 1) (by decide) (fun pre x ih => ?_) pre
  · rw [mapI_snoc]
    have := kvPut_len (mapI pre) x.path (.bool (decide (x.kind = 1)))
    simp only [List.length_append, List.length_singleton]
    omega
theorem thereI_snoc (pre : List Itm) (x : Itm) (p : ByteArray) : thereI (pre ++ [x]) p = (thereI pre p || (decide (x.kind = 1) && decide (x.path = p))) := by
  unfold thereI
  rw [List.any_append, ← Bool.or_assoc]
  simp
def Apart (l : List Itm) : Prop := l.Pairwise fun x y => x.path ≠ y.path
theorem mapI_get (pre : List Itm) (p : ByteArray) : (∀ x ∈ pre, x.path.size ≠ 0) → Apart pre → (kvGet (mapI pre) p).getD (.bool false) = .bool (thereI pre p) := by
  refine snoc_rec (p := fun pre => (∀ x ∈ pre, x.path.size ≠ 0) → Apart pre → (kvGet (mapI pre) p).getD (.bool false) = .bool (thereI pre p)) (fun _ _ => ?_) (fun pre x ih hne ha => ?_) pre
  · have e : mapI [] = kvPut [] ⟨#[]⟩ (.bool true) := rfl
    rw [e, kvGet_put']
    unfold thereI
    by_cases h : (⟨#[]⟩ : ByteArray) = p
    · rw [if_pos h, ← h]; rfl
    · rw [if_neg h]
      have : p.size ≠ 0 := fun h0 => h (by
        apply ba_inj
        rw [List.eq_nil_of_length_eq_zero (show p.data.toList.length = 0 by rw [ba_len]; exact h0)])
      rw [decide_eq_false this]
      rfl
  · have ih := ih (fun y hy => hne y (by simp [hy])) (List.pairwise_append.1 ha).1
    rw [mapI_snoc, kvGet_put', thereI_snoc]
    by_cases h : x.path = p
    · rw [if_pos h, decide_eq_true h]
      have h0 : thereI pre p = false := by
        unfold thereI
        rw [decide_eq_false (by rw [← h]; exact hne x (by simp)), Bool.false_or, List.any_eq_false]
        intro y hy
        have := (List.pairwise_append.1 ha).2.2 y hy x (by simp)
        rw [decide_eq_false (p := y.path = p) (fun e => this (e.trans h.symm))]
        simp
      rw [h0]
      simp
    · rw [if_neg h, decide_eq_false h, Bool.and_false, Bool.or_false]
      exact ih
theorem last_mem {pre : List Itm} {y : Itm} (h : pre.getLast? = some y) : y ∈ pre := List.mem_of_getLast? h
/-- ahead of what comes next, in order, all stand apart from it -/
theorem apart_next {pre : List Itm} {x : Itm} (hs : SortedI (pre ++ [x])) (ha : Apart pre) (hl : lastIs pre x.path = false) : Apart (pre ++ [x]) := by
  refine List.pairwise_append.2 ⟨ha, List.pairwise_singleton _ _, fun y hy z hz => ?_⟩
  obtain rfl : z = x := by simpa using hz
  intro e
  obtain ⟨u, hu⟩ : ∃ u, pre.getLast? = some u := by
    cases h : pre.getLast? with
    | some u => exact ⟨u, rfl⟩
    | none => rw [List.getLast?_eq_none_iff.1 h] at hy; cases hy
  unfold lastIs at hl
  rw [hu] at hl
  simp only [decide_eq_false_iff_not] at hl
  have h2 := (List.pairwise_append.1 hs).2.2 u (last_mem hu) z (by simp)
  have h3 : cmpL (partsP y.path) (partsP u.path) ≤ 0 := by
    obtain ⟨q, rfl⟩ := List.getLast?_eq_some_iff.1 hu
    rcases List.mem_append.1 hy with h | h
    · exact (List.pairwise_append.1 (List.pairwise_append.1 hs).1).2.2 y h u (by simp)
    · obtain rfl : y = u := by simpa using h
      rw [(cmpL_zero _ _).2 rfl]
      decide
  rw [e] at h3
  have h4 := cmpL_turn (partsP u.path) (partsP z.path)
  have h5 : cmpL (partsP u.path) (partsP z.path) = 0 := by omega
  exact hl (partsP_inj ((cmpL_zero _ _).1 h5))
/-- items stay where a map is turned -/
theorem ItmA.turned {w w' : World} {A : Option Addr} {l : List Itm} {P : Program} {t : TypeId} {b : Nat} {m : List (ByteArray × Value)} (h : ItmA w A l) (hm : ownsKV w P t b m) (ht : Touch (· = b) w w') : ItmA w' A l := fun hl => by
  obtain ⟨g, o, rfl, hg, hc⟩ := h hl
  have hne : g ≠ b := by
    rintro rfl
    obtain ⟨es, clock, hb, _⟩ := hm
    have h1 := hc 0 l[0] (List.getElem?_eq_getElem hl) 0 _ rfl
    simp [World.cell?, hb] at h1
  exact ⟨g, o, rfl, Nat.lt_of_lt_of_le hg ht.size, fun i x hx j u hj => (ht.cell (p := ⟨g, o + i * 5 + j, none⟩) hg hne).trans (hc i x hx j u hj)⟩
set_option maxRecDepth 100000 in
set_option maxHeartbeats 6400000 in
theorem wcheck_any (A : Option Addr) (c : Nat) (l : List Itm) (w : World) (he : Env w) (hi : ItmA w A l) (hb : ∀ x ∈ l, ItB x) (hl : l.length ≤ 9223372036854775807) :
    Calls Tryd.prog 53 #[.slice A l.length c] w fun e w' => ∃ n : Nat, e = .returned (.int .i64 n) ∧ ChkR l n ∧ Below w.heap.size w w' := by
  have HE := Lib.hid fun W (hb : Below w.heap.size w W) => he.below hb
  have HN := Lib.hid fun W (hb : Below w.heap.size w W) => hi.below hb
  have HB := Lib.hid hb
  have HI := Lib.hid hi
  clear he hi hb
  by_cases h2 : 200 < l.length
  · have HC := Lib.hid (show ChkR l 2 from .inl ⟨h2, rfl⟩)
    have hq : (200 : Int) < (l.length : Int) := by omega
    clear h2
    go_enter Tryd.func53, Tryd.ntmps53
    go_wp2
    go_ret
    exact ⟨2, rfl, HC.out, Below.refl _ _⟩
  · have hq : ¬ (200 : Int) < (l.length : Int) := by omega
    have h200 : l.length ≤ 200 := by omega
    go_enter Tryd.func53, Tryd.ntmps53
    go_upto_region 3 with fail
    go_wp2
    go_loopw [15] (fun i wr => ∃ k : Nat, i = .int .i64 k ∧ k ≤ l.length ∧ Hid (fitsE (l.drop k) = fitsE l) ∧ Hid (Below w.heap.size w wr)) (fun i _ => l.length - (intOf i).toNat)
    case atStart => exact ⟨0, rfl, Nat.zero_le _, Lib.hid rfl, Lib.hid (Below.refl _ _)⟩
    case round =>
      obtain ⟨k, rfl, hk, HFI, HBL⟩ := hrel
      by_cases hkl : k < l.length
      · as_aux_lemma =>
        have hki : (k : Int) < (l.length : Int) := by omega
        have hdr : l.drop k = l[k] :: l.drop (k + 1) := List.drop_eq_getElem_cons hkl
        have HFN := Lib.hid (show fitsE l = if fitI l[k] ≠ 0 then fitI l[k] else fitsE (l.drop (k + 1)) by rw [← HFI.out, hdr]; rfl)
        obtain ⟨g, o, rfl, hg, hcc⟩ := HN.out wr HBL.out (by omega)
        have hcx := hcc k l[k] (List.getElem?_eq_getElem hkl)
        have HF := Lib.hid fun W (h : Env W) => wfit_any l[k] W h (HB.out _ (List.getElem_mem hkl))
        clear hcc hdr
        generalize l[k] = x at *
        obtain ⟨pa, ki, mo, ti, da⟩ := x
        have q0 : wr.cell? ⟨g, o + k * 5, none⟩ = some (.string pa) := hcx 0 _ rfl
        have q1 : wr.cell? ⟨g, o + k * 5 + 1, none⟩ = some (.int .i64 ki) := hcx 1 _ rfl
        have q2 : wr.cell? ⟨g, o + k * 5 + 2, none⟩ = some (.int .i64 mo) := hcx 2 _ rfl
        have q3 : wr.cell? ⟨g, o + k * 5 + 3, none⟩ = some (.int .i64 ti) := hcx 3 _ rfl
        have q4 : wr.cell? ⟨g, o + k * 5 + 4, none⟩ = some (.string da) := hcx 4 _ rfl
        clear hcx
        have HB2 := Lib.hid (HBL.out.alloc HBL.out.size (.cells #[.string pa, .int .i64 ki, .int .i64 mo, .int .i64 ti, .string da] 59))
        generalize fitI ⟨pa, ki, mo, ti, da⟩ = fv at *
        go_wp2_with fail
        refine (HF.out _ (HE.out _ HB2.out)).mono ?_
        rintro e w3 ⟨rfl, hb3⟩
        have HB3 := Lib.hid (HB2.out.trans (hb3.mono HB2.out.size))
        clear hb3
        by_cases hf : fv = 0
        · have HF2 := Lib.hid (show fitsE (l.drop (k + 1)) = fitsE l by rw [HFN.out, if_neg (by omega)])
          subst hf
          go_wp2
          go_roundw
          case rel => exact ⟨k + 1, by go_num, by omega, HF2, HB3⟩
          case measure => simp [intOf]; omega
        · have HF2 := Lib.hid (show fitsE l = fv by rw [HFN.out, if_pos hf])
          have hne : ((fv : Int) != 0) = true := by rw [bne_iff_ne]; omega
          go_wp2
          go_ret
          exact ⟨fv, rfl, .inr (.inl ⟨h200, by rw [HF2.out]; exact hf, HF2.out.symm⟩), HB3.out⟩
      · as_aux_lemma =>
        obtain rfl : k = l.length := by omega
        have h0 := HFI.out
        rw [List.drop_length] at h0
        have HF0 := Lib.hid h0.symm
        clear h0 HFI
        have HALL := Lib.hid (fits_all l HF0.out)
        generalize wr = wo at *
        have hmm := @run_makeMap Tryd.prog
        have hown0 := ownsKV_made wo Tryd.prog 9
        have HB0 := Lib.hid (HBL.out.alloc HBL.out.size (.map #[] 0))
        have hz0 : ∀ W, (zeroValue 4).run Tryd.prog W = .ok (.bool false) W := fun W => by kernel_rfl
        have HZ := Lib.hid hz0
        have HSO := Lib.hid fun W (hb : Below w.heap.size w W) => wsort_any A c l W (HE.out W hb) (HN.out W hb) (fun x hx => Nat.le_trans (path_size (fit_path_ok (HALL.out x hx))) (by decide)) (by omega)
        clear hz0
        go_wp2_with (refine wpList_kvInsert rfl _ _ _ 136 rfl Tryd.underlying9 Tryd.underlying136 rfl hown0 (by simp) (s := ⟨#[]⟩) rfl (by decide) rfl ?_; intro w1 hown1 hturn1)
        have hb1 : Below w.heap.size w w1 := (Touch.of_turned hturn1).below (w := wo.alloc (.map #[] 0)) (B := w.heap.size) HB0.out.size (fun k hk => by have := HBL.out.size; omega) |> fun h => HB0.out.trans h
        have hmb := HBL.out.size
        have HO1 := Lib.hid (show ownsKV w1 Tryd.prog 9 wo.heap.size (mapI []) from hown1)
        have HB1 := Lib.hid hb1
        clear hown1 hturn1 hb1 hown0 HB0
        go_wp2_with fail
        refine (HSO.out _ HB1.out).mono ?_
        rintro e w2 ⟨A2, c2, ys, rfl, hi2, hpm, hso, hyl, hb2⟩
        have HI2 := Lib.hid hi2
        have HPM := Lib.hid hpm
        have HSR := Lib.hid hso
        have HYL := Lib.hid hyl
        have HB2 := Lib.hid (HB1.out.trans (hb2.mono HB1.out.size))
        have HO2 := Lib.hid (ownsKV_block HO1.out (hb2.block _ (ownsKV_lt HO1.out)))
        have HFY := Lib.hid (show ∀ x ∈ ys, fitI x = 0 from fun x hx => HALL.out x (hpm.mem_iff.1 hx))
        have hy200 : ys.length ≤ 200 := by omega
        have hmb2 : wo.heap.size < w2.heap.size := Nat.lt_of_lt_of_le (ownsKV_lt HO1.out) hb2.size
        clear hi2 hpm hso hyl hb2 HO1 HB1
        go_wp2
        go_loopw [7, 30] (fun lv i wz => ∃ (k : Nat) (last : ByteArray), lv = .string last ∧ i = .int .i64 k ∧ k ≤ ys.length ∧ Hid (∀ y, (ys.take k).getLast? = some y → last = y.path) ∧ Hid (goI (ys.take k) (ys.drop k) = goI [] ys) ∧ Hid (Apart (ys.take k)) ∧ Hid (ownsKV wz Tryd.prog 9 wo.heap.size (mapI (ys.take k))) ∧ Hid (Below w.heap.size w wz) ∧ Hid (ItmA wz A2 ys)) (fun _ i _ => ys.length - (intOf i).toNat)
        case atStart => exact ⟨0, ⟨#[]⟩, rfl, rfl, Nat.zero_le _, Lib.hid (fun y hy => by simp at hy), Lib.hid rfl, Lib.hid List.Pairwise.nil, HO2, HB2, HI2⟩
        case round =>
          clear HO2 HB2 HI2
          obtain ⟨k, last, rfl, rfl, hk, HLA, HGO, HAP, HO, HBZ, HIZ⟩ := hrel
          by_cases hkl : k < ys.length
          · as_aux_lemma =>
            have hki : (k : Int) < (ys.length : Int) := by omega
            have hk0 : (0 : Int) ≤ (k : Int) := by omega
            have hdr : ys.drop k = ys[k] :: ys.drop (k + 1) := List.drop_eq_getElem_cons hkl
            have htk := List.take_succ_eq_append_getElem hkl
            have hgo := HGO.out
            rw [hdr] at hgo
            have hsk : SortedI (ys.take k ++ [ys[k]]) := by rw [← htk]; exact List.Pairwise.sublist (List.take_sublist (k + 1) ys) HSR.out
            obtain ⟨g, o, rfl, hg, hcc⟩ := HIZ.out (by omega)
            have hcx := hcc k ys[k] (List.getElem?_eq_getElem hkl)
            have hfx := HFY.out _ (List.getElem_mem hkl)
            have hge := mapI_get (ys.take k) (parentP ys[k].path) (fun x hx => by
              have := fit_path_ok (HFY.out x (List.mem_of_mem_take hx))
              intro h0
              have e : x.path = ⟨#[]⟩ := by
                apply ba_inj
                rw [List.eq_nil_of_length_eq_zero (show x.path.data.toList.length = 0 by rw [ba_len]; exact h0)]
              rw [e] at this
              exact absurd this (by decide +kernel)) HAP.out
            have hms := mapI_snoc (ys.take k) ys[k]
            have hml := mapI_len (ys.take k)
            have hst := @goI_step (ys.take k) (ys.drop (k + 1)) ys[k]
            have hsp := @goI_stop (ys.take k) (ys.drop (k + 1)) ys[k]
            have han := @apart_next (ys.take k) ys[k] hsk HAP.out
            have hse : stepI (ys.take k) ys[k] = if lastIs (ys.take k) ys[k].path = true then 8 else if thereI (ys.take k) (parentP ys[k].path) = false then 7 else 0 := rfl
            have hli : lastIs (ys.take k) ys[k].path = (decide (0 < k) && decide (last = ys[k].path)) := by
              unfold lastIs
              by_cases h0 : k = 0
              · subst h0; rfl
              · obtain ⟨m, rfl⟩ : ∃ m, k = m + 1 := ⟨k - 1, by omega⟩
                have h1 : (ys.take (m + 1)).getLast? = some ys[m] := by
                  rw [List.take_succ_eq_append_getElem (by omega), List.getLast?_append]; rfl
                rw [h1, HLA.out _ h1]
                simp
            have hnl : ∀ y, (ys.take (k + 1)).getLast? = some y → ys[k].path = y.path := fun y hy => by
              rw [htk, List.getLast?_append] at hy
              simp at hy
              rw [hy]
            have htl : (ys.take k).length ≤ 200 := by rw [List.length_take]; omega
            have HGO2 := Lib.hid hgo
            have HST := Lib.hid hst
            have HSP := Lib.hid hsp
            have HAN := Lib.hid han
            have HSE := Lib.hid hse
            have HNL := Lib.hid hnl
            have HMS := Lib.hid hms
            have HTK := Lib.hid htk
            have HGE := Lib.hid hge
            have hps : ys[k].path.size ≤ 200 := path_size (fit_path_ok hfx)
            clear hcc hdr htk hgo hsk hfx hge hms hst hsp han hse hnl HGO HLA HFY
            generalize ys[k] = x at *
            obtain ⟨pa, ki, mo, ti, da⟩ := x
            simp only at HMS HNL HGE HSE HAN hli hps
            have q0 : wr.cell? ⟨g, o + k * 5, none⟩ = some (.string pa) := hcx 0 _ rfl
            have q1 : wr.cell? ⟨g, o + k * 5 + 1, none⟩ = some (.int .i64 ki) := hcx 1 _ rfl
            have q2 : wr.cell? ⟨g, o + k * 5 + 2, none⟩ = some (.int .i64 mo) := hcx 2 _ rfl
            have q3 : wr.cell? ⟨g, o + k * 5 + 3, none⟩ = some (.int .i64 ti) := hcx 3 _ rfl
            have q4 : wr.cell? ⟨g, o + k * 5 + 4, none⟩ = some (.string da) := hcx 4 _ rfl
            clear hcx
            have hbb := (Below.refl wr.heap.size wr).alloc (Nat.le_refl _) (.cells #[.string pa, .int .i64 ki, .int .i64 mo, .int .i64 ti, .string da] 59)
            have HB8 := Lib.hid (HBZ.out.trans (hbb.mono HBZ.out.size))
            have HI8 := Lib.hid (HIZ.out.below hbb)
            have HO8 := Lib.hid (ownsKV_block HO.out (hbb.block _ (ownsKV_lt HO.out)))
            have HX8 := Lib.hid (Blk.new wr 59 #[.string pa, .int .i64 ki, .int .i64 mo, .int .i64 ti, .string da])
            have hmo := ownsKV_lt HO.out
            have HMO := Lib.hid hmo
            clear hbb HIZ HBZ HO
            have htx := txt_ne last pa
            cases hlv : lastIs (ys.take k) pa with
            | true =>
              rw [hlv] at hli
              have h8 := HSE.out
              rw [hlv] at h8
              have h9 : stepI (ys.take k) ⟨pa, ki, mo, ti, da⟩ = 8 := h8.trans (if_pos rfl)
              have HV := Lib.hid (show goI [] ys = 8 from HGO2.out.symm.trans ((HSP.out (by rw [h9]; decide)).trans h9))
              have hli2 := hli.symm
              simp only [Bool.and_eq_true, decide_eq_true_eq] at hli2
              have hk1 : (0 : Int) < (k : Int) := by omega
              rw [decide_eq_true hli2.2] at htx
              clear h8 h9 hli hli2 hlv
              go_wp2
              go_ret
              exact ⟨8, rfl, .inr (.inr ⟨h200, HF0.out, ys, HPM.out, HSR.out, HV.out.symm⟩), HB8.out⟩
            | false =>
              rw [hlv] at hli
              have h8 := HSE.out
              rw [hlv] at h8
              have HS7 := Lib.hid (show stepI (ys.take k) ⟨pa, ki, mo, ti, da⟩ = if thereI (ys.take k) (parentP pa) = false then 7 else 0 from h8.trans (if_neg (by simp)))
              have HAN2 := Lib.hid (HAN.out hlv)
              have HPP := Lib.hid fun W => pparent_any pa W (by omega)
              have hpz : (parentP pa).size ≤ 9223372036854775807 := by
                unfold parentP
                rw [ByteArray.size_extract]
                omega
              have hcs : ¬ (0 : Int) < (k : Int) ∨ ((0 : Int) < (k : Int) ∧ (last.toList == pa.toList) = false) := by
                by_cases h0 : 0 < k
                · refine .inr ⟨by omega, ?_⟩
                  rw [htx]
                  refine decide_eq_false fun e => ?_
                  rw [decide_eq_true h0, decide_eq_true e] at hli
                  cases hli
                · exact .inl (by omega)
              clear h8 hli hlv htx HAN HSE
              have HGE2 := HGE
              obtain ⟨wq, hwq⟩ : ∃ wq, wr.alloc (.cells #[.string pa, .int .i64 ki, .int .i64 mo, .int .i64 ti, .string da] 59) = wq := ⟨_, rfl⟩
              have c0 : wq.cell? ⟨wr.heap.size, 0, none⟩ = some (.string pa) := by rw [← hwq]; exact HX8.out.cell 0
              have c1 : wq.cell? ⟨wr.heap.size, 1, none⟩ = some (.int .i64 ki) := by rw [← hwq]; exact HX8.out.cell 1
              rw [hwq] at HB8 HI8 HO8
              have HWQ := Lib.hid hwq
              clear hwq HX8
              go_upto_region 15 with fail
              rw [HWQ.out]
              go_cut [42] (fun v wc => v = .bool false ∧ wq = wc)
              case first =>
                rcases hcs with h1 | ⟨h1, h2⟩
                all_goals
                  go_wp2
                  go_meet
                  exact ⟨rfl, rfl⟩
              case rest =>
                obtain ⟨rfl, rfl⟩ := hcut
                clear hcs
                go_wp2_with fail
                refine (HPP.out _).mono ?_
                rintro e w5 ⟨rfl, rfl⟩
                cases hth : thereI (ys.take k) (parentP pa) with
                | false =>
                  have hg2 := HGE2.out
                  rw [hth] at hg2
                  have HG2 := Lib.hid hg2
                  have h9 : stepI (ys.take k) ⟨pa, ki, mo, ti, da⟩ = 7 := HS7.out.trans (if_pos hth)
                  have HV := Lib.hid (show goI [] ys = 7 from HGO2.out.symm.trans ((HSP.out (by rw [h9]; decide)).trans h9))
                  clear hg2 h9 hth
                  go_wp2_with (at_lookup; refine wpList_kvGet rfl _ _ 136 rfl Tryd.underlying9 Tryd.underlying136 (HZ.out _) rfl HO8.out rfl (by unfold maxLen; omega) HG2.out ?_)
                  go_ret
                  exact ⟨7, rfl, .inr (.inr ⟨h200, HF0.out, ys, HPM.out, HSR.out, HV.out.symm⟩), HB8.out⟩
                | true =>
                  have hg2 := HGE2.out
                  rw [hth] at hg2
                  have HG2 := Lib.hid hg2
                  have h9 : stepI (ys.take k) ⟨pa, ki, mo, ti, da⟩ = 0 := HS7.out.trans (if_neg (by rw [hth]; simp))
                  have HV := Lib.hid (show goI (ys.take (k + 1)) (ys.drop (k + 1)) = goI [] ys by rw [HTK.out, ← HST.out h9]; exact HGO2.out)
                  have HMP := Lib.hid (show mapI (ys.take (k + 1)) = kvPut (mapI (ys.take k)) pa (.bool (decide (ki = 1))) by rw [HTK.out]; exact HMS.out)
                  have HAP2 := Lib.hid (show Apart (ys.take (k + 1)) by rw [HTK.out]; exact HAN2.out)
                  have hkq : (ki == 1) = decide (ki = 1) := by rw [Bool.eq_iff_iff, beq_iff_eq, decide_eq_true_eq]
                  obtain ⟨bk, hbk⟩ : ∃ bk : Bool, decide (ki = 1) = bk := ⟨_, rfl⟩
                  rw [hbk] at hkq HMP
                  have hps2 : pa.size ≤ 9223372036854775807 := by omega
                  clear hg2 h9 hth hbk HGE HMS HTK HST HSP HGO2
                  go_wp2_with (first
                    | (at_lookup; refine wpList_kvGet rfl _ _ 136 rfl Tryd.underlying9 Tryd.underlying136 (HZ.out _) rfl HO8.out rfl (by unfold maxLen; omega) HG2.out ?_)
                    | (at_mapUpdate; refine wpList_kvStore rfl _ _ _ 136 rfl Tryd.underlying9 Tryd.underlying136 rfl HO8.out (by omega) rfl (by unfold maxLen; omega) rfl ?_; intro w8 hown8 hturn8))
                  have HO9 := Lib.hid hown8
                  have htb := (Touch.of_turned hturn8)
                  have HB9 := Lib.hid (HB8.out.trans (htb.below (B := w.heap.size) HB8.out.size (fun k hk => by omega)))
                  have HI9 := Lib.hid (HI8.out.turned HO8.out htb)
                  clear hown8 hturn8 htb
                  go_wp2
                  go_roundw
                  case rel => exact ⟨k + 1, pa, rfl, by go_num, by omega, Lib.hid fun y hy => HNL.out y hy, HV, HAP2, by rw [HMP.out]; exact HO9, HB9, HI9⟩
                  case measure => simp [intOf]; omega
          · as_aux_lemma =>
            obtain rfl : k = ys.length := by omega
            have hgo := HGO.out
            rw [List.drop_length] at hgo
            have HX := Lib.hid (show goI [] ys = 0 from hgo.symm)
            clear hgo
            go_wp2
            go_ret
            exact ⟨0, rfl, .inr (.inr ⟨h200, HF0.out, ys, HPM.out, HSR.out, HX.out.symm⟩), HBZ.out⟩
end Go.Proofs.YtaoejgnfoecpfaaDoor
namespace Go.Proofs.YtaoejgnfoecpfaaDoor
set_option linter.unusedVariables false
set_option linter.unusedSimpArgs false
set_option linter.unusedSectionVars false
open Go.RowKit

theorem parent_cases (s : ByteArray) : (parentP s = ⟨#[]⟩ ∧ partsP s = [s]) ∨ partsP s = partsP (parentP s) ++ [baseP s] := by
  rcases last_cases s with ⟨e, hp, _⟩ | ⟨i, hi, e, h47, hp, _⟩
  · left
    unfold parentP
    rw [e]
    refine ⟨ext_00 s, ?_⟩
    unfold partsP
    rw [hp, List.map_cons, List.map_nil, strB_self]
  · right
    have ep : parentP s = s.extract 0 i := by unfold parentP; rw [e]; rfl
    have eb : baseP s = s.extract (i + 1) s.size := by unfold baseP; rw [e]; congr 1
    rw [ep, eb]
    unfold partsP partsR at *
    rw [hp, List.map_append, List.map_cons, List.map_nil, strB_self]
/-- what is in a folder stands behind it -/
theorem parent_less {s : ByteArray} (h : (parentP s).size ≠ 0) : cmpL (partsP (parentP s)) (partsP s) = -1 := by
  rcases parent_cases s with ⟨h1, _⟩ | h1
  · rw [h1] at h; exact absurd rfl h
  · rw [h1]
    exact cmpL_in _ _ (by simp)
theorem go_all : ∀ (r pre : List Itm), goI pre r = 0 ↔ ∀ (i : Nat) (x : Itm), r[i]? = some x → stepI (pre ++ r.take i) x = 0
  | [], pre => by simp [goI]
  | y :: r, pre => by
    have ih := go_all r (pre ++ [y])
    constructor
    · intro h i x hx
      have h0 : stepI pre y = 0 := by
        unfold goI at h
        split at h
        · next h1 => exact absurd h h1
        · next h1 => omega
      rw [goI_step h0] at h
      cases i with
      | zero =>
        simp at hx
        subst hx
        simpa using h0
      | succ i =>
        have := ih.1 h i x (by simpa using hx)
        simpa using this
    · intro h
      have h0 : stepI pre y = 0 := by simpa using h 0 y rfl
      rw [goI_step h0]
      refine ih.2 fun i x hx => ?_
      have := h (i + 1) x (by simpa using hx)
      simpa using this
theorem step_zero {pre : List Itm} {x : Itm} : stepI pre x = 0 ↔ lastIs pre x.path = false ∧ thereI pre (parentP x.path) = true := by
  unfold stepI
  cases lastIs pre x.path <;> cases thereI pre (parentP x.path) <;> simp
/-- a folder for each -/
def Parents (l : List Itm) : Prop := ∀ x ∈ l, (parentP x.path).size = 0 ∨ ∃ y ∈ l, y.kind = 1 ∧ y.path = parentP x.path
structure TreeOk (l : List Itm) : Prop where
  len : l.length ≤ 200
  fit : ∀ x ∈ l, fitI x = 0
  apart : Apart l
  there : Parents l
theorem there_iff {pre : List Itm} {p : ByteArray} : thereI pre p = true ↔ p.size = 0 ∨ ∃ y ∈ pre, y.kind = 1 ∧ y.path = p := by
  unfold thereI
  simp only [Bool.or_eq_true, decide_eq_true_eq, List.any_eq_true, Bool.and_eq_true]
theorem take_snoc {l : List Itm} {i : Nat} {x : Itm} (h : l[i]? = some x) : l.take (i + 1) = l.take i ++ [x] := by
  obtain ⟨hi, rfl⟩ := List.getElem?_eq_some_iff.1 h
  exact List.take_succ_eq_append_getElem hi
theorem sorted_take {l : List Itm} (h : SortedI l) (n : Nat) : SortedI (l.take n) := List.Pairwise.sublist (List.take_sublist n l) h
theorem go_apart {ys : List Itm} (hs : SortedI ys) (h : goI [] ys = 0) : ∀ n, Apart (ys.take n)
  | 0 => List.Pairwise.nil
  | n + 1 => by
    have ih := go_apart hs h n
    cases hx : ys[n]? with
    | none =>
      rw [List.take_of_length_le (by have := List.getElem?_eq_none_iff.1 hx; omega)]
      rw [List.take_of_length_le (by have := List.getElem?_eq_none_iff.1 hx; omega)] at ih
      exact ih
    | some x =>
      rw [take_snoc hx]
      refine apart_next (by rw [← take_snoc hx]; exact sorted_take hs _) ih ?_
      have := (go_all ys []).1 h n x hx
      rw [List.nil_append] at this
      exact (step_zero.1 this).1
theorem go_zero {ys : List Itm} (hs : SortedI ys) : goI [] ys = 0 ↔ Apart ys ∧ Parents ys := by
  constructor
  · intro h
    refine ⟨by have := go_apart hs h ys.length; rwa [List.take_length] at this, fun x hx => ?_⟩
    obtain ⟨i, hi, rfl⟩ := List.getElem_of_mem hx
    have := (go_all ys []).1 h i _ (List.getElem?_eq_getElem hi)
    rw [List.nil_append] at this
    rcases there_iff.1 (step_zero.1 this).2 with h1 | ⟨y, hy, h1⟩
    · exact .inl h1
    · exact .inr ⟨y, List.mem_of_mem_take hy, h1⟩
  · rintro ⟨ha, hp⟩
    refine (go_all ys []).2 fun i x hx => ?_
    rw [List.nil_append, step_zero]
    obtain ⟨hi, he⟩ := List.getElem?_eq_some_iff.1 hx
    have hmem : x ∈ ys := List.mem_of_getElem? hx
    have hsp : ys = ys.take i ++ x :: ys.drop (i + 1) := by
      rw [← he, ← List.drop_eq_getElem_cons hi, List.take_append_drop]
    refine ⟨?_, there_iff.2 ?_⟩
    · unfold lastIs
      cases hl : (ys.take i).getLast? with
      | none => rfl
      | some y =>
        have hy := List.mem_of_getLast? hl
        rw [hsp] at ha
        exact decide_eq_false ((List.pairwise_append.1 ha).2.2 y hy x (by simp))
    · rcases hp x hmem with h1 | ⟨y, hy, h1, h2⟩
      · exact .inl h1
      · by_cases h0 : (parentP x.path).size = 0
        · exact .inl h0
        · refine .inr ⟨y, ?_, h1, h2⟩
          have hlt := parent_less h0
          rw [← h2] at hlt
          rw [hsp] at hy
          rcases List.mem_append.1 hy with h3 | h3
          · exact h3
          · exfalso
            rcases List.mem_cons.1 h3 with rfl | h3
            · rw [(cmpL_zero _ _).2 rfl] at hlt
              cases hlt
            · rw [hsp] at hs
              have h4 := (List.pairwise_cons.1 (List.pairwise_append.1 hs).2.1).1 y h3
              have h5 := cmpL_turn (partsP y.path) (partsP x.path)
              omega
theorem apart_perm {a b : List Itm} (h : a.Perm b) : Apart a ↔ Apart b := h.pairwise_iff fun h e => h e.symm
theorem parents_perm {a b : List Itm} (h : a.Perm b) : Parents a ↔ Parents b := by
  unfold Parents
  constructor
  · intro h1 x hx
    rcases h1 x (h.mem_iff.2 hx) with h2 | ⟨y, hy, h2⟩
    · exact .inl h2
    · exact .inr ⟨y, h.mem_iff.1 hy, h2⟩
  · intro h1 x hx
    rcases h1 x (h.mem_iff.1 hx) with h2 | ⟨y, hy, h2⟩
    · exact .inl h2
    · exact .inr ⟨y, h.mem_iff.2 hy, h2⟩
/-- a check says 0 of just the trees -/
theorem chk_zero {l : List Itm} {e : Nat} (h : ChkR l e) : e = 0 ↔ TreeOk l := by
  rcases h with ⟨h1, rfl⟩ | ⟨h1, h2, rfl⟩ | ⟨h1, h2, ys, h3, h4, rfl⟩
  · exact ⟨fun h => (by cases h), fun h => absurd (TreeOk.len h) (by omega)⟩
  · exact ⟨fun h => absurd h h2, fun h => absurd (fits_none l (TreeOk.fit h)) h2⟩
  · rw [go_zero h4, apart_perm h3, parents_perm h3]
    exact ⟨fun ⟨q1, q2⟩ => ⟨h1, fits_all l h2, q1, q2⟩, fun h => ⟨h.apart, h.there⟩⟩
theorem tree_perm {a b : List Itm} (h : a.Perm b) : TreeOk a ↔ TreeOk b := by
  constructor
  · intro t
    exact ⟨by rw [← h.length_eq]; exact t.len, fun x hx => t.fit x (h.mem_iff.2 hx), (apart_perm h).1 t.apart, (parents_perm h).1 t.there⟩
  · intro t
    exact ⟨by rw [h.length_eq]; exact t.len, fun x hx => t.fit x (h.mem_iff.1 hx), (apart_perm h).2 t.apart, (parents_perm h).2 t.there⟩
end Go.Proofs.YtaoejgnfoecpfaaDoor
