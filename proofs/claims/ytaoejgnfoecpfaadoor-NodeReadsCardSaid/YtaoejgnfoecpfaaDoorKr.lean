/- A range over a map with string keys. -/
import Derived.Test.YtaoejgnfoecpfaaDoorKv
import Derived.Maps.RangeWalk
namespace Go.Proofs.YtaoejgnfoecpfaaDoor
open Go.RowKit Go.Maps

/-- a loop over block b's map l is under way: todo is still to come (cnt entries) -/
def rangesKV (w : World) (P : Program) (k : TypeId) (b r : Nat) (l todo : List (ByteArray × Value)) (cnt : Nat) : Prop :=
  ∃ left, w.ranges P k heldR b r l.length (toD l) left cnt ∧ todo = l.filter fun p => left (.string p.1.data.toList)

/-- no key twice -/
def kvApart {α : Type} (l : List (ByteArray × α)) : Prop := l.Pairwise fun p q => p.1 ≠ q.1

theorem ownsKV_apart {w : World} {P : Program} {k : TypeId} {b : Nat} {l : List (ByteArray × Value)} (hk : P.underlying k = some .string) (h : ownsKV w P k b l) : kvApart l := by
  obtain ⟨es, hes, hp, _⟩ := World.ownsMap.entries h (string_keyed hk)
  simp only [toD, DataW.map.injEq] at hes
  subst hes
  rw [List.pairwise_map] at hp
  exact hp.imp fun {p q} h e => h (by rw [e])

theorem kvGet_mem {α : Type} {l : List (ByteArray × α)} {k : ByteArray} {v : α} (h : kvGet l k = some v) : (k, v) ∈ l := by
  unfold kvGet at h
  cases hf : l.find? (fun p => decide (p.1 = k)) with
  | none => simp [hf] at h
  | some p =>
    have h1 := List.mem_of_find?_eq_some hf
    have h2 := List.find?_some hf
    simp [hf] at h h2
    subst h h2
    exact h1

theorem kvGet_of_mem {α : Type} {l : List (ByteArray × α)} {k : ByteArray} {v : α} (ha : kvApart l) (h : (k, v) ∈ l) : kvGet l k = some v := by
  induction l with
  | nil => cases h
  | cons x r ih =>
    unfold kvGet
    rw [List.find?_cons]
    have ha' := List.pairwise_cons.1 ha
    rcases List.mem_cons.1 h with e | e
    · subst e; simp
    · have : x.1 ≠ k := ha'.1 _ e
      simp [this]
      simpa [kvGet] using ih ha'.2 e

section
variable {P : Program} {w : World} {ops : Array Oper} {rest : List Oper} {o : Oper} {a : Act} {Q : Exit → Act → World → Prop}

theorem wpList_kvRange (hg : o.guard = none) (m : Operand) (t : TypeId) (hop : o.op = Op.range t m) {k e : TypeId} (hk : P.underlying k = some .string) (ht : P.underlying t = some (.map k e)) {b : Nat} {l : List (ByteArray × Value)}
    (hm : a.eval m = .map (some b)) (hown : ownsKV w P k b l)
    (hK : ∀ w' cnt, rangesKV w' P k b w.heap.size l l cnt → Below w.heap.size w w' → w'.heap.size = w.heap.size + 1 → wpList P ops Q rest (a.put o.dst (.pointer (some ⟨w.heap.size, 0, none⟩))) w') :
    wpList P ops Q (o :: rest) a w := by
  refine wpList_range_own w hg m t hop k e (string_keyed hk) ht heldR b l.length (toD l) hm hown ?_
  intro w' h1 h2 h3
  refine hK w' _ ⟨_, h1, ?_⟩ ⟨h2.os, h2.tape, h2.output, h2.size, fun i hi => h2.block i hi (by simp)⟩ h3
  symm
  rw [List.filter_eq_self]
  intro p hp
  simp only [Maps.has, toD, List.any_map, Function.comp_def, key_same]
  exact List.any_eq_true.2 ⟨p, hp, by simp⟩

theorem wpList_kvNext (hg : o.guard = none) (it : Operand) (hop : o.op = Op.next it false) {k : TypeId} (hk : P.underlying k = some .string) {b r : Nat} {l todo : List (ByteArray × Value)} {cnt : Nat}
    (hit : a.eval it = .pointer (some ⟨r, 0, none⟩)) (h : rangesKV w P k b r l todo cnt)
    (hDone : todo = [] → wpList P ops Q rest (a.put o.dst (.tuple #[.bool false])) w)
    (hMore : ∀ (s : ByteArray) (v : Value) (w' : World) (cnt' : Nat), (s, v) ∈ todo → s.size ≤ maxLen → rangesKV w' P k b r l (kvDel todo s) cnt' → cnt' < cnt →
      w.grownBy w' (some r) → w'.heap.size = w.heap.size → (Instr.entry (.pointer (some ⟨r, 0, none⟩))).run P w' = .ok (.tuple #[.string s, v]) w' → wpList P ops Q rest (a.put o.dst (.tuple #[.bool true, .string s, v])) w') :
    wpList P ops Q (o :: rest) a w := by
  obtain ⟨left, hr, rfl⟩ := h
  refine wpList_next_ranges (α := ByteArray) (β := Value) w hg it hop k (string_keyed hk) heldR (fun s => .string s) id (fun key kl hkey => ?_) (fun v y _ => ⟨v, rfl⟩) b r l.length (toD l) left cnt hit hr ?_ ?_
  · cases key <;> simp [keyOf, hk, mapKey] at hkey
    exact ⟨_, rfl⟩
  · intro _ hl
    exact hDone (by rw [List.filter_eq_nil_iff]; intro p _; simp [hl])
  · intro s v kl y w' cnt' hkey hlk hv hat hrg hlt hgr hsz hen
    have hkl : kl = .string s.data.toList ∧ s.size ≤ maxLen := by
      simp [keyOf, hk, mapKey] at hkey
      exact ⟨hkey.2.symm, hkey.1⟩
    obtain ⟨rfl, hsl⟩ := hkl
    have hget : kvGet l s = some v := by
      have h1 := hat (.held (.bool true))
      have h2 := hat (.held (.bool false))
      rw [toD_at] at h1 h2
      simp [heldR] at hv
      subst hv
      cases hg : kvGet l s with
      | none => simp [hg] at h1 h2; rw [← h1] at h2; cases h2
      | some u => simp [hg] at h1; rw [h1]
    refine hMore s v w' cnt' ?_ hsl ⟨_, hrg, ?_⟩ hlt hgr hsz hen
    · exact List.mem_filter.2 ⟨kvGet_mem hget, hlk⟩
    · simp only [kvDel, List.filter_filter, key_same]
      refine List.filter_congr fun p _ => ?_
      simp [Bool.and_comm]
end

theorem rangesKV.size {w : World} {P : Program} {k : TypeId} {b r : Nat} {l todo : List (ByteArray × Value)} {cnt : Nat} (h : rangesKV w P k b r l todo cnt) : w.rangeLeft b r = cnt := by
  obtain ⟨left, hr, _⟩ := h; exact hr.left_eq
theorem rangesKV.owns {w : World} {P : Program} {k : TypeId} {b r : Nat} {l todo : List (ByteArray × Value)} {cnt : Nat} (h : rangesKV w P k b r l todo cnt) : ownsKV w P k b l := by
  obtain ⟨left, hr, _⟩ := h; exact hr.owns
theorem rangesKV.keep {w w' : World} {P : Program} {k : TypeId} {b r : Nat} {l todo : List (ByteArray × Value)} {cnt : Nat} (h : rangesKV w P k b r l todo cnt) (h1 : w'.heap[b]? = w.heap[b]?) (h2 : w'.heap[r]? = w.heap[r]?) : rangesKV w' P k b r l todo cnt := by
  obtain ⟨left, ⟨es, clock, since, seen, c0, hb, F, hs, hD, hr, rest⟩, ht⟩ := h
  exact ⟨left, ⟨es, clock, since, seen, c0, h1.trans hb, F, hs, hD, h2.trans hr, rest⟩, ht⟩

theorem rangesKV.sub {w : World} {P : Program} {k : TypeId} {b r : Nat} {l todo : List (ByteArray × Value)} {cnt : Nat} (h : rangesKV w P k b r l todo cnt) : ∀ p ∈ todo, p ∈ l := by
  obtain ⟨left, _, rfl⟩ := h; exact fun p hp => (List.mem_filter.1 hp).1
theorem rangesKV.apart {w : World} {P : Program} {k : TypeId} {b r : Nat} {l todo : List (ByteArray × Value)} {cnt : Nat} (h : rangesKV w P k b r l todo cnt) (ha : kvApart l) : kvApart todo := by
  obtain ⟨left, _, rfl⟩ := h; exact ha.filter _

/-- what a sum over a list loses with one entry -/
def kvSum {α : Type} (f : α → Nat) (l : List (ByteArray × α)) : Nat := (l.map fun p => f p.2).sum
theorem kvDel_noop {α : Type} {l : List (ByteArray × α)} {k : ByteArray} (h : ∀ p ∈ l, p.1 ≠ k) : kvDel l k = l := by
  unfold kvDel; rw [List.filter_eq_self]; intro p hp; simp [h p hp]
theorem kvSum_del {α : Type} (f : α → Nat) {l : List (ByteArray × α)} {k : ByteArray} {v : α} (ha : kvApart l) (h : (k, v) ∈ l) : kvSum f l = f v + kvSum f (kvDel l k) := by
  induction l with
  | nil => cases h
  | cons x r ih =>
    have ha' := List.pairwise_cons.1 ha
    rcases List.mem_cons.1 h with e | e
    · subst e
      have : kvDel ((k, v) :: r) k = r := by
        have := kvDel_noop (l := r) (k := k) (fun p hp => (ha'.1 p hp).symm)
        simpa [kvDel] using this
      rw [this]; simp [kvSum]
    · have hx : x.1 ≠ k := ha'.1 _ e
      have hd : kvDel (x :: r) k = x :: kvDel r k := by simp [kvDel, hx]
      rw [hd]
      have := ih ha'.2 e
      simp only [kvSum, List.map_cons, List.sum_cons] at this ⊢
      omega
theorem kvApart_del {α : Type} {l : List (ByteArray × α)} (k : ByteArray) (h : kvApart l) : kvApart (kvDel l k) := h.filter _
theorem kvApart_map {α β : Type} {f : α → β} {l : List (ByteArray × α)} : kvApart (kvMap f l) ↔ kvApart l := by
  unfold kvApart kvMap; rw [List.pairwise_map]

theorem kvIns_perm {α : Type} (x : ByteArray × α) (l : List (ByteArray × α)) : (kvIns x l).Perm (x :: l) := by
  induction l with
  | nil => exact List.Perm.refl _
  | cons y r ih =>
    unfold kvIns
    split
    · exact List.Perm.refl _
    · exact (List.Perm.cons y ih).trans (List.Perm.swap x y r)
theorem kvDel_no {α : Type} {l : List (ByteArray × α)} {k : ByteArray} : ∀ p ∈ kvDel l k, p.1 ≠ k := by
  intro p hp
  have := (List.mem_filter.1 hp).2
  simpa using this
theorem kvPut_perm {α : Type} (l : List (ByteArray × α)) (k : ByteArray) (v : α) : (kvPut l k v).Perm ((k, v) :: kvDel l k) := kvIns_perm _ _
theorem kvPut_mem {α : Type} {l : List (ByteArray × α)} {k : ByteArray} {v : α} {p : ByteArray × α} (h : p ∈ kvPut l k v) : p = (k, v) ∨ p ∈ l := by
  rcases List.mem_cons.1 ((kvPut_perm l k v).mem_iff.1 h) with h | h
  · exact Or.inl h
  · exact Or.inr (List.mem_filter.1 h).1
theorem kvDel_mem {α : Type} {l : List (ByteArray × α)} {k : ByteArray} {p : ByteArray × α} (h : p ∈ kvDel l k) : p ∈ l := (List.mem_filter.1 h).1
theorem kvDel_len {α : Type} (l : List (ByteArray × α)) (k : ByteArray) : (kvDel l k).length ≤ l.length := List.length_filter_le _ _
theorem kvPut_len {α : Type} (l : List (ByteArray × α)) (k : ByteArray) (v : α) : (kvPut l k v).length ≤ l.length + 1 := by
  rw [(kvPut_perm l k v).length_eq]; simp; exact kvDel_len l k
theorem kvApart_put {α : Type} {l : List (ByteArray × α)} (k : ByteArray) (v : α) (h : kvApart l) : kvApart (kvPut l k v) := by
  unfold kvApart
  refine ((kvPut_perm l k v).pairwise_iff (fun {_ _} h => Ne.symm h)).2 (List.pairwise_cons.2 ⟨fun p hp => (kvDel_no p hp).symm, kvApart_del k h⟩)
theorem kvMap_congr {α β : Type} {f g : α → β} {l : List (ByteArray × α)} (h : ∀ p ∈ l, f p.2 = g p.2) : kvMap f l = kvMap g l := by
  unfold kvMap; exact List.map_congr_left fun p hp => by rw [h p hp]
theorem kvDel_len_lt {α : Type} {l : List (ByteArray × α)} {k : ByteArray} {v : α} (h : kvGet l k = some v) : (kvDel l k).length + 1 ≤ l.length := by
  have hm := kvGet_mem h
  clear h
  induction l with
  | nil => cases hm
  | cons x r ih =>
    by_cases e : x.1 = k
    · have : kvDel (x :: r) k = kvDel r k := by simp [kvDel, e]
      rw [this]; simp; exact kvDel_len r k
    · have hd : kvDel (x :: r) k = x :: kvDel r k := by simp [kvDel, e]
      rw [hd]; simp
      rcases List.mem_cons.1 hm with e' | e'
      · exact absurd (by rw [← e']) e
      · exact ih e'
end Go.Proofs.YtaoejgnfoecpfaaDoor
