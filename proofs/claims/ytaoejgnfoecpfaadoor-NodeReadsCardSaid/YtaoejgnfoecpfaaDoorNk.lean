/- A tree's nodes: the document's Read. -/
import Derived.Test.YtaoejgnfoecpfaaDoorNj
namespace Go.Proofs.YtaoejgnfoecpfaaDoor
open Go.RowKit

theorem infoRc : (Tryd.prog.info? 72).map (fun i => (i.zero, i.size, i.bytes)) = some (some (.agg #[.int .i64 0, .string ⟨#[]⟩, .int .i64 0, .int .i64 0, .int .i64 0, .slice none 0 0, .string ⟨#[]⟩]), 7, 88) := by kernel_rfl
theorem GoR.blk {g p : Nat} {w w' : World} {t : TypeId} {cs : Array Value} (h : GoR g w w') (hb : Blk w p t cs) (hp : p ≠ g) : Blk w' p t cs := (h.block p hb.lt hp).trans hb
theorem GoR.setP {g p i : Nat} {w w' : World} (h : GoR g w w') (hp : w.heap.size ≤ p) (u : Value) : GoR g w (w'.setCell ⟨p, i, none⟩ u) := h.trans (Touch.setc w' p i u) fun j hj e => by omega
theorem RdC.far {w : World} {g e p i : Nat} {s : ByteArray} (h : RdC w g s e) (hp : g ≠ p) (u : Value) : RdC (w.setCell ⟨p, i, none⟩ u) g s e := Blk.far h (by simpa using hp) u
/-- the record that is being read -/
structure RdSt (wo wc : World) (g p : Nat) (x : Nr) (s : ByteArray) (e : Nat) (B : Option Addr) (cb : Nat) : Prop where
  rd : RdC wc g s e
  blk : Blk wc p 72 (recC x B cb)
  st : StrsA wc wc.heap.size B x.chunks
  nw : ∀ k o, B = some ⟨k, o, none⟩ → wo.heap.size < k
  go : GoR g wo wc
def pre0 (k : Nat) (a : ByteArray) (m t : Nat) : Nr := ⟨k, a, m, t, 0, [], noB⟩
def err0 (k e : Nat) : Nat := if k = 1 ∨ k = 2 ∨ k = 3 then e else failE e 3
/-- behind a file's part -/
def rest2 (k : Nat) (a : ByteArray) (m t : Nat) (s : ByteArray) (e : Nat) : Nr × ByteArray × Nat := if k = 2 then restE 2 a m t s e else (pre0 k a m t, s, err0 k e)
theorem restE_1 {k : Nat} (h2 : k ≠ 2) (h3 : k ≠ 3) (a : ByteArray) (m t : Nat) (s : ByteArray) (e : Nat) : restE k a m t s e = rest2 k a m t s e := by
  unfold rest2
  rw [if_neg h2]
  unfold err0 pre0
  by_cases h1 : k = 1
  · rw [if_pos (.inl h1), restE_one h1]
  · rw [if_neg (by omega), restE_no h1 h2 h3]
theorem restE_2 {k : Nat} (h : k = 2) (a : ByteArray) (m t : Nat) (s : ByteArray) (e : Nat) : restE k a m t s e = rest2 k a m t s e := by
  subst h
  unfold rest2
  rw [if_pos rfl]
def RSt (wo : World) (g p : Nat) (r : Nr × ByteArray × Nat) (wc : World) : Prop := ∃ B cb, RdSt wo wc g p r.1 r.2.1 r.2.2 B cb
/-- the records so far, and where each's chunks lie -/
def RecsV (w : World) (P : Nat → Prop) (rs : List (Nr × Option Addr × Nat)) : Prop := ∀ r ∈ rs, StrsA w w.heap.size r.2.1 r.1.chunks ∧ (0 < r.1.chunks.length → ∀ k o, r.2.1 = some ⟨k, o, none⟩ → P k)
def recsC (rs : List (Nr × Option Addr × Nat)) : List Value := (rs.map fun r => (recC r.1 r.2.1 r.2.2).toList).flatten
theorem recsC_snoc (rs : List (Nr × Option Addr × Nat)) (r : Nr × Option Addr × Nat) : recsC (rs ++ [r]) = recsC rs ++ (recC r.1 r.2.1 r.2.2).toList := by unfold recsC; simp
theorem StrsA.keep {w w' : World} {A : Option Addr} {l : List ByteArray} (h : StrsA w w.heap.size A l) (hs : w.heap.size ≤ w'.heap.size) (he : 0 < l.length → ∀ g o, A = some ⟨g, o, none⟩ → g < w.heap.size → w'.heap[g]? = w.heap[g]?) : StrsA w' w'.heap.size A l := fun hl => by
  obtain ⟨g, o, rfl, h2, h3⟩ := h hl
  exact ⟨g, o, rfl, Nat.lt_of_lt_of_le h2 hs, fun j u hj => (World.cell?_of_block (he hl g o rfl h2)).trans (h3 j u hj)⟩
theorem RecsV.keep {w w' : World} {P Q : Nat → Prop} {rs : List (Nr × Option Addr × Nat)} (h : RecsV w P rs) (hs : w.heap.size ≤ w'.heap.size) (hk : ∀ k, P k → k < w.heap.size → w'.heap[k]? = w.heap[k]? ∧ Q k) : RecsV w' Q rs := fun r hr => by
  obtain ⟨h1, h2⟩ := h r hr
  refine ⟨h1.keep hs fun hl g o e hg => (hk g (h2 hl g o e) hg).1, fun hl k o e => ?_⟩
  obtain ⟨g, o', e', hg, _⟩ := h1 hl
  rw [e] at e'
  injection e' with e'
  injection e' with e1 e2
  subst e1
  exact (hk k (h2 hl k o e) hg).2
theorem RecsV.snoc {w : World} {P : Nat → Prop} {rs : List (Nr × Option Addr × Nat)} {r : Nr × Option Addr × Nat} (h : RecsV w P rs) (h1 : StrsA w w.heap.size r.2.1 r.1.chunks) (h2 : 0 < r.1.chunks.length → ∀ k o, r.2.1 = some ⟨k, o, none⟩ → P k) : RecsV w P (rs ++ [r]) := fun q hq => by
  rcases List.mem_append.1 hq with hq | hq
  · exact h q hq
  · obtain rfl := List.mem_singleton.1 hq
    exact ⟨h1, h2⟩
theorem own_rowN {w : World} {B n k c : Nat} {t : TypeId} {A : Option Addr} {l : List (List Value)} (hk : 0 < k) (hc : ∀ x ∈ l, x.length = k) (h : w.ownsRow B t k (.slice A n c) n l.flatten) : (0 < l.length → ∃ g o, A = some ⟨g, o, none⟩ ∧ g < w.heap.size ∧ ∀ (i : Nat) (c : List Value), l[i]? = some c → ∀ (j : Nat) (u : Value), c[j]? = some u → w.cell? ⟨g, o + i * k + j, none⟩ = some u) ∧ n = l.length := by
  have hfl : l.flatten.length = l.length * k := by
    clear h
    induction l with
    | nil => simp
    | cons y r ih => rw [List.flatten_cons, List.length_append, hc y (by simp), ih (fun x hx => hc x (by simp [hx])), List.length_cons, Nat.succ_mul]; omega
  have hn : n = l.length := by
    have := h.1
    rw [hfl] at this
    exact Nat.eq_of_mul_eq_mul_right hk this.symm
  refine ⟨fun hl => ?_, hn⟩
  rcases h.2 with ⟨hv, _⟩ | ⟨g, cap, cur, hv, _⟩
  · simp at hv; omega
  · simp only [Value.slice.injEq] at hv
    obtain ⟨rfl, _, rfl⟩ := hv
    refine ⟨g, 0, rfl, (h.lt g rfl).2, fun i x hi j u hj => ?_⟩
    have hil : i < l.length := (List.getElem?_eq_some_iff.1 hi).1
    have hx := hc x (List.mem_of_getElem? hi)
    have hjl : j < k := by have := (List.getElem?_eq_some_iff.1 hj).1; omega
    have hb : i * k + j < n * k := by
      rw [hn]
      calc i * k + j < i * k + k := by omega
        _ = (i + 1) * k := by rw [Nat.succ_mul]
        _ ≤ l.length * k := Nat.mul_le_mul_right k hil
    rw [Nat.zero_add, h.cellAt (i * k + j) hb]
    have key : ∀ (l : List (List Value)) (i : Nat), (∀ x ∈ l, x.length = k) → l[i]? = some x → l.flatten[i * k + j]? = some u := by
      intro l
      induction l with
      | nil => intro i _ hi; simp at hi
      | cons y r ih =>
        intro i hc hi
        rw [List.flatten_cons]
        have hy := hc y (by simp)
        cases i with
        | zero =>
          simp only [List.getElem?_cons_zero, Option.some.injEq] at hi
          subst hi
          rw [Nat.zero_mul, Nat.zero_add, List.getElem?_append_left (by omega)]
          exact hj
        | succ i =>
          simp only [List.getElem?_cons_succ] at hi
          rw [List.getElem?_append_right (by rw [hy, Nat.succ_mul]; omega), hy]
          have e : (i + 1) * k + j - k = i * k + j := by rw [Nat.succ_mul]; omega
          rw [e]
          exact ih i (fun x hx => hc x (by simp [hx])) hi
    exact key l i hc hi
theorem RecsV.row {w : World} {P : Nat → Prop} {rs : List (Nr × Option Addr × Nat)} {B n c : Nat} {t : TypeId} {A : Option Addr} (h : RecsV w P rs) (ho : w.ownsRow B t 7 (.slice A n c) n (recsC rs)) : RecsA w A (rs.map (·.1)) := fun hl => by
  rw [List.length_map] at hl
  have hc7 : ∀ x ∈ (rs.map fun r => (recC r.1 r.2.1 r.2.2).toList), x.length = 7 := fun x hx => by obtain ⟨r, _, rfl⟩ := List.mem_map.1 hx; rfl
  obtain ⟨g, o, rfl, hg, hc⟩ := (own_rowN (by decide) hc7 ho).1 (by rw [List.length_map]; exact hl)
  refine ⟨g, o, rfl, hg, fun i x hx => ?_⟩
  rw [List.getElem?_map] at hx
  obtain ⟨r, hr, rfl⟩ := Option.map_eq_some_iff.1 hx
  obtain ⟨h1, _⟩ := h r (List.mem_of_getElem? hr)
  exact ⟨r.2.1, r.2.2, fun j u hj => hc i _ (by rw [List.getElem?_map, hr]; rfl) j u (by simpa using hj), h1⟩
def DecRPost (s : ByteArray) (w : World) (r : Ending) (w' : World) : Prop :=
  ∃ A c, r = .returned (.tuple #[.slice A (decN s).1.length c, .int .i64 ((decN s).2 : Nat)]) ∧ RecsA w' A (decN s).1 ∧ Below w.heap.size w w' ∧ (decN s).1.length ≤ c
end Go.Proofs.YtaoejgnfoecpfaaDoor
