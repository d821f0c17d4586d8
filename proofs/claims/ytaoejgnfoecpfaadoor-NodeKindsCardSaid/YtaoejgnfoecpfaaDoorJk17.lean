/- NodeKinds: the region of two calls of Told, whatever its order: the invariant. NodeKinds: its walk. -/
import Derived.Test.YtaoejgnfoecpfaaDoorJk1
import Derived.Test.YtaoejgnfoecpfaaDoorJk16
import Derived.Test.YtaoejgnfoecpfaaDoorJk15
namespace Go.Proofs.YtaoejgnfoecpfaaDoor
set_option linter.unusedVariables false
set_option linter.unusedSimpArgs false
set_option linter.unusedSectionVars false
open Go.RowKit

def farV (n : Nat) (v x : Value) : Prop := ∀ (f : Array Value) (k o m c g : Nat), v = .agg f → f[5]? = some (.slice (some ⟨k, o, none⟩) m c) → x = .pointer (some ⟨g, 0, none⟩) → 0 < n → k ≠ g
def TolV (r : Nr) (W : World) (v : Value) : Prop := ∃ E c, v = .agg (recC r E c) ∧ StrsA W W.heap.size E r.chunks ∧ (E = none → c = 0)
def PtrV (B : Nat) (W : World) (x v : Value) (b : Bool) : Prop := ∃ (g : Nat) (cs : Array Value), x = .pointer (some ⟨g, 0, none⟩) ∧ B ≤ g ∧ Blk W g 72 cs ∧ cs.size = 7 ∧ (b = true → v = .agg cs)
theorem PtrV.below {B : Nat} {W W' : World} {x v : Value} {b : Bool} (h : PtrV B W x v b) (hb : Below W.heap.size W W') : PtrV B W' x v b := by
  obtain ⟨g, cs, h1, h2, h3, h4, h5⟩ := h
  exact ⟨g, cs, h1, h2, h3.below hb h3.lt, h4, h5⟩
theorem TolV.below {r : Nr} {W W' : World} {v : Value} (h : TolV r W v) (hb : Below W.heap.size W W') : TolV r W' v := by
  obtain ⟨E, c, h1, h2, h3⟩ := h
  exact ⟨E, c, h1, h2.below hb, h3⟩
/-- a store of a whole record, cell by cell -/
def set7 (W : World) (g : Nat) (v0 v1 v2 v3 v4 v5 v6 : Value) : World := (((((((W.setCell ⟨g, 0, none⟩ v0).setCell ⟨g, 1, none⟩ v1).setCell ⟨g, 2, none⟩ v2).setCell ⟨g, 3, none⟩ v3).setCell ⟨g, 4, none⟩ v4).setCell ⟨g, 5, none⟩ v5).setCell ⟨g, 6, none⟩ v6)
theorem set7_heap {W : World} {b g : Nat} (hb : b ≠ g) (v0 v1 v2 v3 v4 v5 v6 : Value) : (set7 W g v0 v1 v2 v3 v4 v5 v6).heap[b]? = W.heap[b]? := heap7 hb v0 v1 v2 v3 v4 v5 v6
theorem set7_size (W : World) (g : Nat) (v0 v1 v2 v3 v4 v5 v6 : Value) : (set7 W g v0 v1 v2 v3 v4 v5 v6).heap.size = W.heap.size := by simp [set7]
theorem set7_arr {α : Type} (cs : Array α) (hc : cs.size = 7) (v0 v1 v2 v3 v4 v5 v6 : α) : (((((((cs.setIfInBounds 0 v0).setIfInBounds 1 v1).setIfInBounds 2 v2).setIfInBounds 3 v3).setIfInBounds 4 v4).setIfInBounds 5 v5).setIfInBounds 6 v6) = #[v0, v1, v2, v3, v4, v5, v6] := by
  obtain ⟨l⟩ := cs
  have hl : l.length = 7 := hc
  obtain _ | ⟨a0, l⟩ := l
  · cases hl
  obtain _ | ⟨a1, l⟩ := l
  · cases hl
  obtain _ | ⟨a2, l⟩ := l
  · cases hl
  obtain _ | ⟨a3, l⟩ := l
  · cases hl
  obtain _ | ⟨a4, l⟩ := l
  · cases hl
  obtain _ | ⟨a5, l⟩ := l
  · cases hl
  obtain _ | ⟨a6, l⟩ := l
  · cases hl
  obtain _ | ⟨a7, l⟩ := l
  · simp only [List.setIfInBounds_toArray, List.set_cons_zero, List.set_cons_succ]
  · simp at hl
theorem arr7x {α : Type} (cs : Array α) (hc : cs.size = 7) : ∃ c0 c1 c2 c3 c4 c5 c6, cs = #[c0, c1, c2, c3, c4, c5, c6] := by
  obtain ⟨l⟩ := cs
  have hl : l.length = 7 := hc
  obtain _ | ⟨a0, l⟩ := l
  · cases hl
  obtain _ | ⟨a1, l⟩ := l
  · cases hl
  obtain _ | ⟨a2, l⟩ := l
  · cases hl
  obtain _ | ⟨a3, l⟩ := l
  · cases hl
  obtain _ | ⟨a4, l⟩ := l
  · cases hl
  obtain _ | ⟨a5, l⟩ := l
  · cases hl
  obtain _ | ⟨a6, l⟩ := l
  · cases hl
  obtain _ | ⟨a7, l⟩ := l
  · exact ⟨_, _, _, _, _, _, _, rfl⟩
  · simp at hl
theorem set7_blk {W : World} {g : Nat} {t : TypeId} {cs : Array Value} (h : Blk W g t cs) (hc : cs.size = 7) (v0 v1 v2 v3 v4 v5 v6 : Value) : Blk (set7 W g v0 v1 v2 v3 v4 v5 v6) g t #[v0, v1, v2, v3, v4, v5, v6] := by
  have := ((((((h.set_ 0 v0).set_ 1 v1).set_ 2 v2).set_ 3 v3).set_ 4 v4).set_ 5 v5).set_ 6 v6
  rw [set7_arr cs hc] at this
  exact this
theorem TolV.set7 {r : Nr} {W : World} {v : Value} {g : Nat} (h : TolV r W v) (hf : farV r.chunks.length v (.pointer (some ⟨g, 0, none⟩))) (v0 v1 v2 v3 v4 v5 v6 : Value) : TolV r (set7 W g v0 v1 v2 v3 v4 v5 v6) v := by
  obtain ⟨E, c, rfl, h2, h3⟩ := h
  refine ⟨E, c, rfl, ?_, h3⟩
  exact StrsA.keep h2 (Nat.le_of_eq (set7_size ..).symm) fun hl k o e _ => set7_heap (hf _ k o _ c g rfl (by subst e; rfl) rfl hl) ..
theorem PtrV.set7_far {B : Nat} {W : World} {x v : Value} {b : Bool} {g : Nat} (h : PtrV B W x v b) (hx : x ≠ .pointer (some ⟨g, 0, none⟩)) (v0 v1 v2 v3 v4 v5 v6 : Value) : PtrV B (set7 W g v0 v1 v2 v3 v4 v5 v6) x v b := by
  obtain ⟨k, cs, rfl, h2, h3, h4, h5⟩ := h
  exact ⟨k, cs, rfl, h2, (set7_heap (fun e => hx (by rw [e])) ..).trans h3, h4, h5⟩
/-- what has been done, and what holds -/
structure In15 (wA : World) (P : Value) (r : Nr) (b0 b1 b2 b3 b4 b5 b6 b7 b8 b9 : Bool) (x64 x65 x66 x67 x68 x69 x10 x11 : Value) (w : World) : Prop where
  bel : Below wA.heap.size wA w
  h0 : b0 = true → x64 = P
  h1 : b1 = true → x65 = .iface 75 P
  h2 : b2 = true → TolV r w x66
  h3 : b3 = true → x67 = P
  h4 : b4 = true → x68 = .iface 75 P
  h5 : b5 = true → TolV r w x69
  h6 : b6 = true → PtrV wA.heap.size w x10 x66 b8
  h7 : b7 = true → PtrV wA.heap.size w x11 x69 b9
  h8 : b8 = true → b2 = true ∧ b6 = true
  h9 : b9 = true → b5 = true ∧ b7 = true
  f26 : b2 = true → b6 = true → farV r.chunks.length x66 x10
  f27 : b2 = true → b7 = true → farV r.chunks.length x66 x11
  f56 : b5 = true → b6 = true → farV r.chunks.length x69 x10
  f57 : b5 = true → b7 = true → farV r.chunks.length x69 x11
  f67 : b6 = true → b7 = true → x10 ≠ x11
def put15 (a : Act) (x64 x65 x66 x67 x68 x69 x10 x11 : Value) : Act := (((((((a.put (some 64) x64).put (some 65) x65).put (some 66) x66).put (some 67) x67).put (some 68) x68).put (some 69) x69).put (some 10) x10).put (some 11) x11
theorem put_self (a : Act) (d : Nat) : a.put (some d) (a.tmps.getD d undef) = a := by
  obtain ⟨tm, df⟩ := a
  show Act.mk (tm.setIfInBounds d (tm.getD d undef)) df = ⟨tm, df⟩
  congr 1
  apply Array.ext
  · simp
  · intro i h1 h2
    rw [Array.getElem_setIfInBounds]
    split
    · next h => subst h; rw [Array.getD_eq_getD_getElem?, Array.getElem?_eq_getElem h2]; rfl
    · rfl
theorem put15_self (a : Act) : a = put15 a (a.tmps.getD 64 undef) (a.tmps.getD 65 undef) (a.tmps.getD 66 undef) (a.tmps.getD 67 undef) (a.tmps.getD 68 undef) (a.tmps.getD 69 undef) (a.tmps.getD 10 undef) (a.tmps.getD 11 undef) := by
  unfold put15
  simp only [put_self]
def I15 (wA : World) (P : Value) (r : Nr) (a : Act) (l : Array Bool) (a' : Act) (w : World) : Prop := ∃ (b0 b1 b2 b3 b4 b5 b6 b7 b8 b9 : Bool) (x64 x65 x66 x67 x68 x69 x10 x11 : Value), l = #[b0, b1, b2, b3, b4, b5, b6, b7, b8, b9] ∧ a' = put15 a x64 x65 x66 x67 x68 x69 x10 x11 ∧ In15 wA P r b0 b1 b2 b3 b4 b5 b6 b7 b8 b9 x64 x65 x66 x67 x68 x69 x10 x11 w
section
variable {wA w W : World} {P : Value} {r : Nr} {b0 b1 b2 b3 b4 b5 b6 b7 b8 b9 : Bool} {x64 x65 x66 x67 x68 x69 x10 x11 : Value}
theorem In15.ld0 (h : In15 wA P r b0 b1 b2 b3 b4 b5 b6 b7 b8 b9 x64 x65 x66 x67 x68 x69 x10 x11 w) : In15 wA P r true b1 b2 b3 b4 b5 b6 b7 b8 b9 P x65 x66 x67 x68 x69 x10 x11 w := { h with h0 := fun _ => rfl }
theorem In15.ld1 (h : In15 wA P r b0 b1 b2 b3 b4 b5 b6 b7 b8 b9 x64 x65 x66 x67 x68 x69 x10 x11 w) : In15 wA P r b0 true b2 b3 b4 b5 b6 b7 b8 b9 x64 (.iface 75 P) x66 x67 x68 x69 x10 x11 w := { h with h1 := fun _ => rfl }
theorem In15.ld3 (h : In15 wA P r b0 b1 b2 b3 b4 b5 b6 b7 b8 b9 x64 x65 x66 x67 x68 x69 x10 x11 w) : In15 wA P r b0 b1 b2 true b4 b5 b6 b7 b8 b9 x64 x65 x66 P x68 x69 x10 x11 w := { h with h3 := fun _ => rfl }
theorem In15.ld4 (h : In15 wA P r b0 b1 b2 b3 b4 b5 b6 b7 b8 b9 x64 x65 x66 x67 x68 x69 x10 x11 w) : In15 wA P r b0 b1 b2 b3 true b5 b6 b7 b8 b9 x64 x65 x66 x67 (.iface 75 P) x69 x10 x11 w := { h with h4 := fun _ => rfl }
theorem far_new {E : Option Addr} {c : Nat} {x : Value} {B : Nat} {v : Value} {b : Bool} (hk : ∀ k o, E = some ⟨k, o, none⟩ → w.heap.size ≤ k) (hp : PtrV B w x v b) : farV r.chunks.length (.agg (recC r E c)) x := by
  intro f k o m c' g e1 e2 e3 _
  injection e1 with e1
  subst e1
  simp only [recC, List.getElem?_toArray, List.getElem?_cons_succ, List.getElem?_cons_zero, Option.some.injEq] at e2
  injection e2 with e4
  obtain ⟨g', cs, e5, _, hb, _⟩ := hp
  rw [e3] at e5
  injection e5 with e5
  simp only [Option.some.injEq, Addr.mk.injEq, and_true] at e5
  subst e5
  have h1 := hk k o e4
  have h2 := hb.lt
  omega
theorem far_old {v : Value} (h : TolV r w v) : farV r.chunks.length v (.pointer (some ⟨w.heap.size, 0, none⟩)) := by
  intro f k o m c' g e1 e2 e3 hl
  obtain ⟨E, c, rfl, hs, _⟩ := h
  injection e1 with e1
  subst e1
  simp only [recC, List.getElem?_toArray, List.getElem?_cons_succ, List.getElem?_cons_zero, Option.some.injEq] at e2
  injection e2 with e4
  injection e3 with e3
  simp only [Option.some.injEq, Addr.mk.injEq, and_true] at e3
  obtain ⟨b, o', e5, hb, _⟩ := hs hl
  rw [e4] at e5
  simp only [Option.some.injEq, Addr.mk.injEq, and_true] at e5
  omega
theorem In15.call2 (h : In15 wA P r b0 b1 false b3 b4 b5 b6 b7 b8 b9 x64 x65 x66 x67 x68 x69 x10 x11 w) {E : Option Addr} {c : Nat} (hs : StrsA W W.heap.size E r.chunks) (hk : ∀ k o, E = some ⟨k, o, none⟩ → w.heap.size ≤ k) (hn : E = none → c = 0) (hb : Below w.heap.size w W) :
    In15 wA P r b0 b1 true b3 b4 b5 b6 b7 b8 b9 x64 x65 (.agg (recC r E c)) x67 x68 x69 x10 x11 W := by
  have e8 : b8 = false := by
    cases b8
    · rfl
    · exact absurd (h.h8 rfl).1 (by simp)
  subst e8
  exact { h with
    bel := h.bel.trans (hb.mono h.bel.size)
    h2 := fun _ => ⟨E, c, rfl, hs, hn⟩
    h5 := fun e => (h.h5 e).below hb
    h6 := fun e => by
      obtain ⟨g, cs, q1, q2, q3, q4, _⟩ := (h.h6 e).below hb
      exact ⟨g, cs, q1, q2, q3, q4, fun e => by cases e⟩
    h7 := fun e => (h.h7 e).below hb
    h8 := fun e => by cases e
    f26 := fun _ e => far_new hk (h.h6 e)
    f27 := fun _ e => far_new hk (h.h7 e) }
theorem In15.call5 (h : In15 wA P r b0 b1 b2 b3 b4 false b6 b7 b8 b9 x64 x65 x66 x67 x68 x69 x10 x11 w) {E : Option Addr} {c : Nat} (hs : StrsA W W.heap.size E r.chunks) (hk : ∀ k o, E = some ⟨k, o, none⟩ → w.heap.size ≤ k) (hn : E = none → c = 0) (hb : Below w.heap.size w W) :
    In15 wA P r b0 b1 b2 b3 b4 true b6 b7 b8 b9 x64 x65 x66 x67 x68 (.agg (recC r E c)) x10 x11 W := by
  have e8 : b9 = false := by
    cases b9
    · rfl
    · exact absurd (h.h9 rfl).1 (by simp)
  subst e8
  exact { h with
    bel := h.bel.trans (hb.mono h.bel.size)
    h5 := fun _ => ⟨E, c, rfl, hs, hn⟩
    h2 := fun e => (h.h2 e).below hb
    h7 := fun e => by
      obtain ⟨g, cs, q1, q2, q3, q4, _⟩ := (h.h7 e).below hb
      exact ⟨g, cs, q1, q2, q3, q4, fun e => by cases e⟩
    h6 := fun e => (h.h6 e).below hb
    h9 := fun e => by cases e
    f56 := fun _ e => far_new hk (h.h6 e)
    f57 := fun _ e => far_new hk (h.h7 e) }
theorem ptr_ne {B : Nat} {x v : Value} {b : Bool} (h : PtrV B w x v b) : x ≠ .pointer (some ⟨w.heap.size, 0, none⟩) := by
  obtain ⟨g, cs, rfl, _, hb, _⟩ := h
  intro e
  injection e with e
  simp only [Option.some.injEq, Addr.mk.injEq, and_true] at e
  have := hb.lt
  omega
theorem In15.al6 (h : In15 wA P r b0 b1 b2 b3 b4 b5 false b7 b8 b9 x64 x65 x66 x67 x68 x69 x10 x11 w) (cs : Array Value) (hc : cs.size = 7) :
    In15 wA P r b0 b1 b2 b3 b4 b5 true b7 b8 b9 x64 x65 x66 x67 x68 x69 (.pointer (some ⟨w.heap.size, 0, none⟩)) x11 (w.alloc (.cells cs 72)) := by
  have e8 : b8 = false := by
    cases b8
    · rfl
    · exact absurd (h.h8 rfl).2 (by simp)
  subst e8
  have hb : Below w.heap.size w (w.alloc (.cells cs 72)) := (Below.refl _ w).alloc (Nat.le_refl _) _
  exact { h with
    bel := h.bel.alloc h.bel.size _
    h2 := fun e => (h.h2 e).below hb
    h5 := fun e => (h.h5 e).below hb
    h6 := fun _ => ⟨w.heap.size, cs, rfl, h.bel.size, Blk.new w _ _, hc, fun e => by cases e⟩
    h7 := fun e => (h.h7 e).below hb
    h8 := fun e => by cases e
    f26 := fun e _ => far_old (h.h2 e)
    f56 := fun e _ => far_old (h.h5 e)
    f67 := fun _ e => (ptr_ne (h.h7 e)).symm }
theorem In15.al7 (h : In15 wA P r b0 b1 b2 b3 b4 b5 b6 false b8 b9 x64 x65 x66 x67 x68 x69 x10 x11 w) (cs : Array Value) (hc : cs.size = 7) :
    In15 wA P r b0 b1 b2 b3 b4 b5 b6 true b8 b9 x64 x65 x66 x67 x68 x69 x10 (.pointer (some ⟨w.heap.size, 0, none⟩)) (w.alloc (.cells cs 72)) := by
  have e8 : b9 = false := by
    cases b9
    · rfl
    · exact absurd (h.h9 rfl).2 (by simp)
  subst e8
  have hb : Below w.heap.size w (w.alloc (.cells cs 72)) := (Below.refl _ w).alloc (Nat.le_refl _) _
  exact { h with
    bel := h.bel.alloc h.bel.size _
    h2 := fun e => (h.h2 e).below hb
    h5 := fun e => (h.h5 e).below hb
    h7 := fun _ => ⟨w.heap.size, cs, rfl, h.bel.size, Blk.new w _ _, hc, fun e => by cases e⟩
    h6 := fun e => (h.h6 e).below hb
    h9 := fun e => by cases e
    f27 := fun e _ => far_old (h.h2 e)
    f57 := fun e _ => far_old (h.h5 e)
    f67 := fun e _ => ptr_ne (h.h6 e) }
theorem below_s7 {g : Nat} (h : Below wA.heap.size wA w) (hg : wA.heap.size ≤ g) (v0 v1 v2 v3 v4 v5 v6 : Value) : Below wA.heap.size wA (set7 w g v0 v1 v2 v3 v4 v5 v6) := below_set7 h hg v0 v1 v2 v3 v4 v5 v6
theorem In15.st8 {g : Nat} {v0 v1 v2 v3 v4 v5 v6 : Value} (h : In15 wA P r b0 b1 true b3 b4 b5 true b7 b8 b9 x64 x65 (.agg #[v0, v1, v2, v3, v4, v5, v6]) x67 x68 x69 (.pointer (some ⟨g, 0, none⟩)) x11 w) :
    In15 wA P r b0 b1 true b3 b4 b5 true b7 true b9 x64 x65 (.agg #[v0, v1, v2, v3, v4, v5, v6]) x67 x68 x69 (.pointer (some ⟨g, 0, none⟩)) x11 (set7 w g v0 v1 v2 v3 v4 v5 v6) := by
  obtain ⟨g', cs, e1, hg, hb, hc, _⟩ := h.h6 rfl
  injection e1 with e1
  simp only [Option.some.injEq, Addr.mk.injEq, and_true] at e1
  subst e1
  exact { h with
    bel := below_s7 h.bel hg ..
    h2 := fun e => (h.h2 e).set7 (h.f26 rfl rfl) ..
    h5 := fun e => (h.h5 e).set7 (h.f56 e rfl) ..
    h6 := fun _ => ⟨g, _, rfl, hg, set7_blk hb hc .., rfl, fun _ => rfl⟩
    h7 := fun e => (h.h7 e).set7_far (h.f67 rfl e).symm ..
    h8 := fun _ => ⟨rfl, rfl⟩ }
theorem In15.st9 {g : Nat} {v0 v1 v2 v3 v4 v5 v6 : Value} (h : In15 wA P r b0 b1 b2 b3 b4 true b6 true b8 b9 x64 x65 x66 x67 x68 (.agg #[v0, v1, v2, v3, v4, v5, v6]) x10 (.pointer (some ⟨g, 0, none⟩)) w) :
    In15 wA P r b0 b1 b2 b3 b4 true b6 true b8 true x64 x65 x66 x67 x68 (.agg #[v0, v1, v2, v3, v4, v5, v6]) x10 (.pointer (some ⟨g, 0, none⟩)) (set7 w g v0 v1 v2 v3 v4 v5 v6) := by
  obtain ⟨g', cs, e1, hg, hb, hc, _⟩ := h.h7 rfl
  injection e1 with e1
  simp only [Option.some.injEq, Addr.mk.injEq, and_true] at e1
  subst e1
  exact { h with
    bel := below_s7 h.bel hg ..
    h5 := fun e => (h.h5 e).set7 (h.f57 rfl rfl) ..
    h2 := fun e => (h.h2 e).set7 (h.f27 e rfl) ..
    h7 := fun _ => ⟨g, _, rfl, hg, set7_blk hb hc .., rfl, fun _ => rfl⟩
    h6 := fun e => (h.h6 e).set7_far (h.f67 e rfl) ..
    h9 := fun _ => ⟨rfl, rfl⟩ }
end
def Cut15 (wA : World) (r : Nr) (u v : Value) (w : World) : Prop := Below wA.heap.size wA w ∧ ∃ ga gb Ea ca Eb cb, u = .pointer (some ⟨ga, 0, none⟩) ∧ v = .pointer (some ⟨gb, 0, none⟩) ∧ ga ≠ gb ∧ wA.heap.size ≤ ga ∧ wA.heap.size ≤ gb ∧ Blk w ga 72 (recC r Ea ca) ∧ Blk w gb 72 (recC r Eb cb) ∧ StrsA w w.heap.size Ea r.chunks ∧ StrsA w w.heap.size Eb r.chunks ∧ (Ea = none → ca = 0) ∧ (Eb = none → cb = 0)
theorem In15.cut {wA w : World} {P : Value} {r : Nr} {b0 b1 b2 b3 b4 b5 b6 b7 b8 b9 : Bool} {x64 x65 x66 x67 x68 x69 x10 x11 : Value} (h : In15 wA P r b0 b1 b2 b3 b4 b5 b6 b7 b8 b9 x64 x65 x66 x67 x68 x69 x10 x11 w)
    (e2 : b2 = true) (e5 : b5 = true) (e6 : b6 = true) (e7 : b7 = true) (e8 : b8 = true) (e9 : b9 = true) : Cut15 wA r x10 x11 w := by
  obtain ⟨E, c, rfl, hs, hn⟩ := h.h2 e2
  obtain ⟨F, d, rfl, ks, kn⟩ := h.h5 e5
  have hf := h.f67 e6 e7
  obtain ⟨g, cs, rfl, hg, hb, _, hv⟩ := h.h6 e6
  obtain ⟨k, ds, rfl, kg, kb, _, kv⟩ := h.h7 e7
  have hv := hv e8
  have kv := kv e9
  injection hv with hv
  injection kv with kv
  subst hv kv
  exact ⟨h.bel, g, k, E, c, F, d, rfl, rfl, fun e => hf (by rw [e]), hg, kg, hb, kb, hs, ks, hn, kn⟩
theorem recsA_one {w : World} {g : Nat} {x : Nr} {E : Option Addr} {c : Nat} (h : Blk w g 72 (recC x E c)) (hs : StrsA w w.heap.size E x.chunks) : RecsA w (some ⟨g, 0, none⟩) [x] := by
  intro _
  refine ⟨g, 0, rfl, h.lt, fun i y hy => ?_⟩
  have : i = 0 ∧ y = x := by
    cases i with
    | zero => simp at hy; exact ⟨rfl, hy.symm⟩
    | succ i => simp at hy
  obtain ⟨rfl, rfl⟩ := this
  refine ⟨E, c, fun j u hj => ?_, ?_⟩
  · have := h.cell j
    rw [show 0 + 0 * 7 + j = j by omega, this]
    exact hj
  · exact hs
section
variable {wc W : World} {ga gb g1 : Nat} {a tg noB0 : ByteArray} {m t z : Int} {n ca cb : Nat} {Ea Eb : Option Addr} {k0 kk : Int} {v1 v2 v3 v4 v5 : Value}
theorem ks19 (hA : Blk wc ga 72 #[.int .i64 kk, .string a, .int .i64 m, .int .i64 t, .int .i64 z, .slice Ea n ca, .string noB]) (hB : Blk wc gb 72 #[.int .i64 kk, .string a, .int .i64 m, .int .i64 t, .int .i64 z, .slice Eb n cb, .string noB]) (hK : Blk wc g1 72 #[.int .i64 k0, v1, v2, v3, v4, v5, .string tg]) (h : Below wc.heap.size wc W) :
    W.cell? ⟨ga, 0, none⟩ = some (.int .i64 kk) ∧ W.cell? ⟨ga, 1, none⟩ = some (.string a) ∧ W.cell? ⟨ga, 2, none⟩ = some (.int .i64 m) ∧ W.cell? ⟨ga, 3, none⟩ = some (.int .i64 t) ∧ W.cell? ⟨ga, 4, none⟩ = some (.int .i64 z) ∧ W.cell? ⟨ga, 5, none⟩ = some (.slice Ea n ca) ∧ W.cell? ⟨ga, 6, none⟩ = some (.string noB) ∧ W.cell? ⟨gb, 0, none⟩ = some (.int .i64 kk) ∧ W.cell? ⟨gb, 1, none⟩ = some (.string a) ∧ W.cell? ⟨gb, 2, none⟩ = some (.int .i64 m) ∧ W.cell? ⟨gb, 3, none⟩ = some (.int .i64 t) ∧ W.cell? ⟨gb, 4, none⟩ = some (.int .i64 z) ∧ W.cell? ⟨gb, 5, none⟩ = some (.slice Eb n cb) ∧ W.cell? ⟨gb, 6, none⟩ = some (.string noB) ∧ W.cell? ⟨g1, 6, none⟩ = some (.string tg) ∧ Below wc.heap.size wc W :=
  have a1 := hA.below h hA.lt
  have b1 := hB.below h hB.lt
  have k1 := hK.below h hK.lt
  ⟨a1.cell 0, a1.cell 1, a1.cell 2, a1.cell 3, a1.cell 4, a1.cell 5, a1.cell 6, b1.cell 0, b1.cell 1, b1.cell 2, b1.cell 3, b1.cell 4, b1.cell 5, b1.cell 6, k1.cell 6, h⟩
theorem bel19 {A0 A1 A2 A3 A4 A5 A6 A7 A8 A9 B0 B1 B2 B3 B4 : Prop} (h : A0 ∧ A1 ∧ A2 ∧ A3 ∧ A4 ∧ A5 ∧ A6 ∧ A7 ∧ A8 ∧ A9 ∧ B0 ∧ B1 ∧ B2 ∧ B3 ∧ B4 ∧ Below wc.heap.size wc W) : Below wc.heap.size wc W := h.2.2.2.2.2.2.2.2.2.2.2.2.2.2.2
end
theorem balloc {wA W : World} {o : Obj} (h : Below wA.heap.size wA W) : Below wA.heap.size wA (W.alloc o) := h.alloc h.size o
theorem bdrew {wA W : World} (h : Below wA.heap.size wA W) : Below wA.heap.size wA W.drew := h.drew
theorem same_one (x : Nr) (B1 B2 : Option Addr) (W : World) (h1 : RecsA W B1 [x]) (h2 : RecsA W B2 [x]) (hc : x.chunks.length ≤ 9223372036854775807) : Calls Tryd.prog 25 #[.slice B1 1 1, .slice B2 1 1] W fun e w' => e = .returned (.bool true) ∧ Below W.heap.size W w' := by
  have := nsame_any [x] [x] B1 B2 1 1 W h1 h2 (by simp) (fun y hy => by simp at hy; subst hy; exact hc)
  rw [decide_eq_true rfl] at this
  exact this
theorem same_two {k m t z : Int} {a tg : ByteArray} {ch : List ByteArray} {E B2 : Option Addr} {c : Nat} {W : World} (hs : StrsA W W.heap.size E ch) (h2 : RecsA (W.alloc (.cells #[.int .i64 k, .string a, .int .i64 m, .int .i64 t, .int .i64 z, .slice E ch.length c, .string tg] 72)) B2 [⟨k, a, m, t, z, ch, tg⟩]) (hc : ch.length ≤ 9223372036854775807) :
    Calls Tryd.prog 25 #[.slice (some ⟨W.heap.size, 0, none⟩) 1 1, .slice B2 1 1] (W.alloc (.cells #[.int .i64 k, .string a, .int .i64 m, .int .i64 t, .int .i64 z, .slice E ch.length c, .string tg] 72)) fun e w' => e = .returned (.bool true) ∧ Below (W.alloc (.cells #[.int .i64 k, .string a, .int .i64 m, .int .i64 t, .int .i64 z, .slice E ch.length c, .string tg] 72)).heap.size (W.alloc (.cells #[.int .i64 k, .string a, .int .i64 m, .int .i64 t, .int .i64 z, .slice E ch.length c, .string tg] 72)) w' :=
  same_one ⟨k, a, m, t, z, ch, tg⟩ _ _ _ (recsA_one (x := ⟨k, a, m, t, z, ch, tg⟩) (Blk.new W _ _) (hs.below ((Below.refl _ W).alloc (Nat.le_refl _) _))) h2 hc
theorem same_twoD {k m t z : Int} {a tg : ByteArray} {ch : List ByteArray} {E B2 : Option Addr} {c : Nat} {W : World} (hs : StrsA W W.heap.size E ch) (h2 : RecsA (W.alloc (.cells #[.int .i64 k, .string a, .int .i64 m, .int .i64 t, .int .i64 z, .slice E ch.length c, .string tg] 72)).drew B2 [⟨k, a, m, t, z, ch, tg⟩]) (hc : ch.length ≤ 9223372036854775807) :
    Calls Tryd.prog 25 #[.slice (some ⟨W.heap.size, 0, none⟩) 1 1, .slice B2 1 1] (W.alloc (.cells #[.int .i64 k, .string a, .int .i64 m, .int .i64 t, .int .i64 z, .slice E ch.length c, .string tg] 72)).drew fun e w' => e = .returned (.bool true) ∧ Below (W.alloc (.cells #[.int .i64 k, .string a, .int .i64 m, .int .i64 t, .int .i64 z, .slice E ch.length c, .string tg] 72)).drew.heap.size (W.alloc (.cells #[.int .i64 k, .string a, .int .i64 m, .int .i64 t, .int .i64 z, .slice E ch.length c, .string tg] 72)).drew w' :=
  same_one ⟨k, a, m, t, z, ch, tg⟩ _ _ _ (recsA_one (x := ⟨k, a, m, t, z, ch, tg⟩) (Blk.drew (Blk.new W _ _)) (hs.below ((Below.refl _ W).alloc (Nat.le_refl _) _).drew)) h2 hc
theorem same_zero {E B2 : Option Addr} {c : Nat} {W : World} (h2 : RecsA (W.alloc (.cells #[.int .i64 0, .string ⟨#[]⟩, .int .i64 0, .int .i64 0, .int .i64 0, .slice E 0 c, .string noB] 72)) B2 [⟨0, ⟨#[]⟩, 0, 0, 0, [], noB⟩]) :
    Calls Tryd.prog 25 #[.slice (some ⟨W.heap.size, 0, none⟩) 1 1, .slice B2 1 1] (W.alloc (.cells #[.int .i64 0, .string ⟨#[]⟩, .int .i64 0, .int .i64 0, .int .i64 0, .slice E 0 c, .string noB] 72)) fun e w' => e = .returned (.bool true) ∧ Below (W.alloc (.cells #[.int .i64 0, .string ⟨#[]⟩, .int .i64 0, .int .i64 0, .int .i64 0, .slice E 0 c, .string noB] 72)).heap.size (W.alloc (.cells #[.int .i64 0, .string ⟨#[]⟩, .int .i64 0, .int .i64 0, .int .i64 0, .slice E 0 c, .string noB] 72)) w' :=
  same_two (ch := []) (fun h => absurd h (by simp)) h2 (by decide)
theorem same_zeroD {E B2 : Option Addr} {c : Nat} {W : World} (h2 : RecsA (W.alloc (.cells #[.int .i64 0, .string ⟨#[]⟩, .int .i64 0, .int .i64 0, .int .i64 0, .slice E 0 c, .string noB] 72)).drew B2 [⟨0, ⟨#[]⟩, 0, 0, 0, [], noB⟩]) :
    Calls Tryd.prog 25 #[.slice (some ⟨W.heap.size, 0, none⟩) 1 1, .slice B2 1 1] (W.alloc (.cells #[.int .i64 0, .string ⟨#[]⟩, .int .i64 0, .int .i64 0, .int .i64 0, .slice E 0 c, .string noB] 72)).drew fun e w' => e = .returned (.bool true) ∧ Below (W.alloc (.cells #[.int .i64 0, .string ⟨#[]⟩, .int .i64 0, .int .i64 0, .int .i64 0, .slice E 0 c, .string noB] 72)).drew.heap.size (W.alloc (.cells #[.int .i64 0, .string ⟨#[]⟩, .int .i64 0, .int .i64 0, .int .i64 0, .slice E 0 c, .string noB] 72)).drew w' :=
  same_twoD (ch := []) (fun h => absurd h (by simp)) h2 (by decide)
end Go.Proofs.YtaoejgnfoecpfaaDoor
namespace Go.Proofs.YtaoejgnfoecpfaaDoor
set_option linter.unusedVariables false
set_option linter.unusedSimpArgs false
set_option linter.unusedSectionVars false
open Go.RowKit

set_option maxRecDepth 100000 in
set_option maxHeartbeats 6400000 in
theorem nkinds_two (a tg : ByteArray) (m t z : Int) (ch : List ByteArray) (A : Option Addr) (c : Nat) (w : World) (he : Env w) (hs : StrsA w w.heap.size A ch) (hn : A = none → c = 0) (hb : tg.size ≤ 140737488355328) (hc : ch.length * 16 ≤ 140737488355328) :
    Calls Tryd.prog 8 #[.agg #[.int .i64 2, .string a, .int .i64 m, .int .i64 t, .int .i64 z, .slice A ch.length c, .string tg]] w fun e w' => e = .returned (.bool true) ∧ Below w.heap.size w w' := by
  have HE := Lib.hid fun W (hb : Below w.heap.size w W) => he.below hb
  have HAW := Lib.hid fun W (h : Env W) => awake12_any W h
  have HB0 := Lib.hid ((Below.refl w.heap.size w).alloc (Nat.le_refl _) (.cells #[.int .i64 2, .string a, .int .i64 m, .int .i64 t, .int .i64 z, .slice A ch.length c, .string tg] 72))
  have HK0 := Lib.hid (Blk.new w 72 #[.int .i64 2, .string a, .int .i64 m, .int .i64 t, .int .i64 z, .slice A ch.length c, .string tg])
  have HS0 := Lib.hid (hs.below ((Below.refl w.heap.size w).alloc (Nat.le_refl _) (.cells #[.int .i64 2, .string a, .int .i64 m, .int .i64 t, .int .i64 z, .slice A ch.length c, .string tg] 72)))
  have HTG := Lib.hid fun W => target_any tg W hb
  have HRT := Lib.hid fun W => rtarget_any tg W hb
  have HOF := Lib.hid fun W (h : StrsA W W.heap.size A ch) => of_big ⟨2, a, m, t, z, ch, tg⟩ A c W h hn hc
  clear he hs
  go_enter Tryd.func8, Tryd.ntmps8
  go_upto_region 1 with fail
  generalize w.alloc (.cells #[.int .i64 2, .string a, .int .i64 m, .int .i64 t, .int .i64 z, .slice A ch.length c, .string tg] 72) = w1 at *
  obtain ⟨⟨q0, q1, q2, q3, q4, q5, q6⟩, _⟩ := blk7' HK0.out
  go_wp2_with fail
  refine (HOF.out _ HS0.out).mono ?_
  rintro e w2 ⟨v, rfl, hv, hnb, hb2, _, _⟩
  have HB2 := Lib.hid (HB0.out.trans (hb2.mono HB0.out.size))
  have HK2 := Lib.hid (HK0.out.below hb2 HK0.out.lt)
  clear q0 q1 q2 q3 q4 q5 q6 hb2 hnb HOF HS0
  rcases hv with ⟨h, _⟩ | ⟨_, X, cx, rfl, hst, hnx⟩ | ⟨h, _⟩ | ⟨h, _⟩
  · exact absurd h (by simp)
  rotate_left
  · exact absurd h (by simp)
  · exact absurd h (by simp [kindOk])
  simp only at hst
  have HAP := Lib.hid fun W => asPlain_pl a m t z X ch.length cx W
  have HMP := Lib.hid fun W => mustPlain_any a m t z X ch.length cx W
  have HST := Lib.hid hst
  have HVN := Lib.hid fun W (h : StrsA W W.heap.size X ch) => (show NodeIs W (plaV a m t z X ch.length cx) ⟨2, a, m, t, z, ch, tg⟩ from .inr (.inl ⟨rfl, X, cx, rfl, h, hnx⟩))
  clear hst
  unfold plaV at *
  simp only
  go_wp2_with fail
  refine (HAP.out _).mono ?_
  rintro e w3 ⟨rfl, hb3⟩
  have HB3 := Lib.hid (HB2.out.trans (hb3.mono HB2.out.size))
  have HK3 := Lib.hid (HK2.out.below hb3 HK2.out.lt)
  have HS3 := Lib.hid (HST.out.below hb3)
  clear hb3 HB2 HK2 HST HAP
  have hba := (Below.refl w3.heap.size w3).alloc (Nat.le_refl _) (.cells #[.string a, .int .i64 m, .int .i64 t, .int .i64 z, .slice X ch.length cx] 75)
  have HP4 := Lib.hid (Blk.new w3 75 #[.string a, .int .i64 m, .int .i64 t, .int .i64 z, .slice X ch.length cx])
  have HB4 := Lib.hid (HB3.out.trans (hba.mono HB3.out.size))
  have HK4 := Lib.hid (HK3.out.below hba HK3.out.lt)
  have HS4 := Lib.hid (HS3.out.below hba)
  clear hba HB3 HK3 HS3
  go_upto_region 3 with fail
  generalize w3.alloc (.cells #[.string a, .int .i64 m, .int .i64 t, .int .i64 z, .slice X ch.length cx] 75) = w4 at *
  obtain ⟨⟨q0, q1, q2, q3, q4, q5, q6⟩, _⟩ := blk7' HK4.out
  obtain ⟨p0, p1, p2, p3, p4⟩ := blk5 HP4.out
  have hb5 := (Below.refl w4.heap.size w4).alloc (Nat.le_refl _) (.cells #[.string a, .int .i64 m, .int .i64 t, .int .i64 z, .slice X ch.length cx] 75)
  have HB5 := Lib.hid hb5
  have HQ5 := Lib.hid (Blk.new w4 75 #[.string a, .int .i64 m, .int .i64 t, .int .i64 z, .slice X ch.length cx])
  clear hb5
  go_wp2_with fail
  refine (HMP.out _).mono ?_
  rintro e w6 ⟨rfl, hb6⟩
  have HQ6 := Lib.hid (HQ5.out.below hb6 HQ5.out.lt)
  have hbw := (((((HB5.out.trans (hb6.mono HB5.out.size)).setCell (p := ⟨w4.heap.size, 0, none⟩) (Nat.le_refl _) (.string a)).setCell (p := ⟨w4.heap.size, 1, none⟩) (Nat.le_refl _) (.int .i64 m)).setCell (p := ⟨w4.heap.size, 2, none⟩) (Nat.le_refl _) (.int .i64 t)).setCell (p := ⟨w4.heap.size, 3, none⟩) (Nat.le_refl _) (.int .i64 z)).setCell (p := ⟨w4.heap.size, 4, none⟩) (Nat.le_refl _) (.slice X ch.length cx)
  have HQ7 := Lib.hid (show Blk (((((w6.setCell ⟨w4.heap.size, 0, none⟩ (.string a)).setCell ⟨w4.heap.size, 1, none⟩ (.int .i64 m)).setCell ⟨w4.heap.size, 2, none⟩ (.int .i64 t)).setCell ⟨w4.heap.size, 3, none⟩ (.int .i64 z)).setCell ⟨w4.heap.size, 4, none⟩ (.slice X ch.length cx)) w4.heap.size 75 #[.string a, .int .i64 m, .int .i64 t, .int .i64 z, .slice X ch.length cx] from ((((HQ6.out.set_ 0 (.string a)).set_ 1 (.int .i64 m)).set_ 2 (.int .i64 t)).set_ 3 (.int .i64 z)).set_ 4 (.slice X ch.length cx))
  have HK7 := Lib.hid (HK4.out.below hbw HK4.out.lt)
  have HP7 := Lib.hid (HP4.out.below hbw HP4.out.lt)
  have HS7 := Lib.hid (HS4.out.below hbw)
  have HB7 := Lib.hid (HB4.out.trans (hbw.mono HB4.out.size))
  have f0 := HQ6.out.frozen 0
  have f1 := HQ6.out.frozen 1
  have f2 := HQ6.out.frozen 2
  have f3 := HQ6.out.frozen 3
  have f4 := HQ6.out.frozen 4
  obtain ⟨r0, r1, r2, r3, r4⟩ := blk5 HQ6.out
  clear hb6 hbw q0 q1 q2 q3 q4 q5 q6 p0 p1 p2 p3 p4 HQ5 HQ6 HB5 HK4 HP4 HS4 HB4 HMP
  go_upto_region 7 with fail
  generalize ((((w6.setCell ⟨w4.heap.size, 0, none⟩ (.string a)).setCell ⟨w4.heap.size, 1, none⟩ (.int .i64 m)).setCell ⟨w4.heap.size, 2, none⟩ (.int .i64 t)).setCell ⟨w4.heap.size, 3, none⟩ (.int .i64 z)).setCell ⟨w4.heap.size, 4, none⟩ (.slice X ch.length cx) = w7 at *
  clear r0 r1 r2 r3 r4 f0 f1 f2 f3 f4
  obtain ⟨⟨q0, q1, q2, q3, q4, q5, q6⟩, _⟩ := blk7' HK7.out
  go_upto_region 10 with fail
  have HCL := Lib.hid fun W (hW : Below w7.heap.size w7 W) => (show W.cell? ⟨w.heap.size, 1, none⟩ = some (.string a) ∧ True from ⟨(HK7.out.below hW HK7.out.lt).cell 1, trivial⟩)
  have HEE := Lib.hid fun W (hW : Below w7.heap.size w7 W) => HE.out W (HB7.out.trans (hW.mono HB7.out.size))
  have HKK := Lib.hid fun W (hW : Below w7.heap.size w7 W) => kind_any _ _ W (HVN.out W (HS7.out.below hW))
  have hkr : kindR ⟨2, a, m, t, z, ch, tg⟩ = 2 := by simp [kindR, kindOk]
  rw [hkr] at HKK
  have hme := mPla
  have hcf := cfPla
  have hta : (a.toList != a.toList) = false := by simp
  clear q0 q1 q2 q3 q4 q5 q6 hkr
  go_cut [57] (fun v wc => v = .bool false ∧ Below w7.heap.size w7 wc)
  case first =>
    refine wp_region_below (by kernel_rfl) (by kernel_rfl) ?_
    repeat
      first
        | go_big_quiet_skip
        | (go_big_quiet_want
           go_big_quiet_op
           first
             | go_big_quiet_on
             | (refine ⟨_, fun _ _ => rfl, ?_⟩; go_big_quiet_on)
             | (apply Exists.intro
                refine ⟨fun W hW => ?_, ?_⟩
                first
                  | (go_at_call 24; refine (HAW.out W (HEE.out W hW)).mono ?_; rintro e w8 ⟨rfl, hb8⟩; exact ⟨rfl, hW.trans (hb8.mono hW.size)⟩)
                  | (go_at_call 16; refine (HKK.out W hW).mono ?_; rintro e w8 ⟨rfl, rfl⟩; exact ⟨rfl, hW⟩)
                  | (go_at_call 178; refine (pathP a m t z X ch.length cx W).mono ?_; rintro e w8 ⟨rfl, hb8⟩; exact ⟨rfl, hW.trans (hb8.mono hW.size)⟩)
                  | (obtain ⟨g0, g1⟩ := HCL.out W hW; go_simp; done)
                  | (obtain ⟨g0, g1⟩ := HCL.out W hW; go_simp; rfl)
                go_big_quiet_on))
    refine wpQuiet_nil ?_
    intro w8 hb8
    go_wp2
    go_meet
    exact ⟨rfl, hb8⟩
  case rest =>
    obtain ⟨rfl, hbc⟩ := hcut
    have HKC := Lib.hid (HK7.out.below hbc HK7.out.lt)
    have HPC := Lib.hid (HP7.out.below hbc HP7.out.lt)
    have HQC := Lib.hid (HQ7.out.below hbc HQ7.out.lt)
    have HSC := Lib.hid (HS7.out.below hbc)
    have HBC := Lib.hid (HB7.out.trans (hbc.mono HB7.out.size))
    clear hbc HK7 HP7 HQ7 HS7 HB7 HCL HEE HKK hta
    have hz8 := (Below.refl wc.heap.size wc).alloc (Nat.le_refl _) (.cells #[.int .i64 0, .string ⟨#[]⟩, .int .i64 0, .int .i64 0, .int .i64 0, .slice none 0 0, .string ⟨#[]⟩] 72)
    have HK8 := Lib.hid (HKC.out.below hz8 HKC.out.lt)
    have HP8 := Lib.hid (HPC.out.below hz8 HPC.out.lt)
    have HQ8 := Lib.hid (HQC.out.below hz8 HQC.out.lt)
    have HS8 := Lib.hid (HSC.out.below hz8)
    have HB8 := Lib.hid (HBC.out.trans (hz8.mono HBC.out.size))
    have HTD := Lib.hid fun W (h : StrsA W W.heap.size X ch) => told_big ⟨2, a, m, t, z, ch, tg⟩ _ W (HVN.out W h) hc
    have htl : tell ⟨2, a, m, t, z, ch, tg⟩ = ⟨2, a, m, t, z, ch, noB⟩ := by simp [tell]
    unfold ToldPost at HTD
    rw [htl] at HTD
    unfold recC at HTD
    simp only at HTD
    clear hz8 HKC HPC HQC HSC HBC htl HVN
    go_wp2_with fail
    refine (HTD.out _ HS8.out).mono ?_
    rintro e w9 ⟨E, ce, rfl, hs9, hg9, hn9, hb9⟩
    have HK9 := Lib.hid (HK8.out.below hb9 HK8.out.lt)
    have HP9 := Lib.hid (HP8.out.below hb9 HP8.out.lt)
    have HQ9 := Lib.hid (HQ8.out.below hb9 HQ8.out.lt)
    have HS9 := Lib.hid (HS8.out.below hb9)
    have HT9 := Lib.hid hs9
    have HB9 := Lib.hid (HB8.out.trans (hb9.mono HB8.out.size))
    clear hb9 hg9 hs9 HK8 HP8 HQ8 HS8 HB8
    have hzA := (Below.refl w9.heap.size w9).alloc (Nat.le_refl _) (.cells #[.int .i64 2, .string a, .int .i64 m, .int .i64 t, .int .i64 z, .slice E ch.length ce, .string noB] 72)
    have HKA := Lib.hid (HK9.out.below hzA HK9.out.lt)
    have HPA := Lib.hid (HP9.out.below hzA HP9.out.lt)
    have HQA := Lib.hid (HQ9.out.below hzA HQ9.out.lt)
    have HSA := Lib.hid (HS9.out.below hzA)
    have HTA := Lib.hid (HT9.out.below hzA)
    have HBA := Lib.hid (HB9.out.trans (hzA.mono HB9.out.size))
    have HOA := Lib.hid (Blk.new w9 72 #[.int .i64 2, .string a, .int .i64 m, .int .i64 t, .int .i64 z, .slice E ch.length ce, .string noB])
    clear hzA HK9 HP9 HQ9 HS9 HT9 HB9
    go_upto_region 15 with fail
    generalize w9.alloc (.cells #[.int .i64 2, .string a, .int .i64 m, .int .i64 t, .int .i64 z, .slice E ch.length ce, .string noB] 72) = wA at *
    go_cut [10, 11] (fun u v wc => Hid (Cut15 wA ⟨2, a, m, t, z, ch, noB⟩ u v wc))
    case first =>
      refine wp_region_inv2 (by kernel_rfl) (I15 wA (.agg #[.string a, .int .i64 m, .int .i64 t, .int .i64 z, .slice X ch.length cx]) ⟨2, a, m, t, z, ch, noB⟩) ?_ ?_ ?_
      · refine ⟨false, false, false, false, false, false, false, false, false, false, _, _, _, _, _, _, _, _, rfl, put15_self _, ⟨Below.drew (Below.refl _ _), ?_, ?_, ?_, ?_, ?_, ?_, ?_, ?_, ?_, ?_, ?_, ?_, ?_, ?_, ?_⟩⟩ <;> exact fun h => by cases h
      · intro l a' W hI hr
        obtain ⟨b0, b1, b2, b3, b4, b5, b6, b7, b8, b9, x64, x65, x66, x67, x68, x69, x10, x11, rfl, rfl, hin⟩ := hI
        simp only [put15, Act.put, List.setIfInBounds_toArray, List.set_cons_succ, List.set_cons_zero]
        have t0 : b0 = true := (ready_nil hr 0 (by decide)).elim (fun h => h) (fun h => by simp [Region.binds] at h)
        subst t0
        have t1 : b1 = true := (ready_nil hr 1 (by decide)).elim (fun h => h) (fun h => by simp [Region.binds] at h)
        subst t1
        have t2 : b2 = true := (ready_nil hr 2 (by decide)).elim (fun h => h) (fun h => by simp [Region.binds] at h)
        subst t2
        have t3 : b3 = true := (ready_nil hr 3 (by decide)).elim (fun h => h) (fun h => by simp [Region.binds] at h)
        subst t3
        have t4 : b4 = true := (ready_nil hr 4 (by decide)).elim (fun h => h) (fun h => by simp [Region.binds] at h)
        subst t4
        have t5 : b5 = true := (ready_nil hr 5 (by decide)).elim (fun h => h) (fun h => by simp [Region.binds] at h)
        subst t5
        have t6 : b6 = true := (ready_nil hr 6 (by decide)).elim (fun h => h) (fun h => by simp [Region.binds] at h)
        subst t6
        have t7 : b7 = true := (ready_nil hr 7 (by decide)).elim (fun h => h) (fun h => by simp [Region.binds] at h)
        subst t7
        have t8 : b8 = true := (ready_nil hr 8 (by decide)).elim (fun h => h) (fun h => by simp [Region.binds] at h)
        subst t8
        have t9 : b9 = true := (ready_nil hr 9 (by decide)).elim (fun h => h) (fun h => by simp [Region.binds] at h)
        subst t9
        clear hr
        have hcut := hin.cut rfl rfl rfl rfl rfl rfl
        have HC := Lib.hid hcut
        clear hcut
        go_wp2
        go_meet
        exact HC
      · intro l a' W hI i hr
        obtain ⟨b0, b1, b2, b3, b4, b5, b6, b7, b8, b9, x64, x65, x66, x67, x68, x69, x10, x11, rfl, rfl, hin⟩ := hI
        obtain ⟨h1, h2, h3⟩ := ready_dep hr
        clear hr
        have hi : i < 10 := h1
        match i, hi, h2, h3 with
        | 0, _, h2, h3 =>
          simp [Region.binds] at h2 h3
          refine wpOp_step rfl (fun K hK => ?_)
          have hpb := HPA.out.below hin.bel HPA.out.lt
          have p0 : W.cell? ⟨w3.heap.size, 0, none⟩ = some (.string a) := hpb.cell 0
          have p1 : W.cell? ⟨w3.heap.size, 1, none⟩ = some (.int .i64 m) := hpb.cell 1
          have p2 : W.cell? ⟨w3.heap.size, 2, none⟩ = some (.int .i64 t) := hpb.cell 2
          have p3 : W.cell? ⟨w3.heap.size, 3, none⟩ = some (.int .i64 z) := hpb.cell 3
          have p4 : W.cell? ⟨w3.heap.size, 4, none⟩ = some (.slice X ch.length cx) := hpb.cell 4
          clear hpb
          simp only [put15, Act.put, List.setIfInBounds_toArray, List.set_cons_succ, List.set_cons_zero]
          go_simp
          refine hK _ _ ⟨true, b1, b2, b3, b4, b5, b6, b7, b8, b9, (.agg #[.string a, .int .i64 m, .int .i64 t, .int .i64 z, .slice X ch.length cx]), x65, x66, x67, x68, x69, x10, x11, rfl, ?_, hin.ld0⟩
          simp only [put15, Act.put, List.setIfInBounds_toArray, List.set_cons_succ, List.set_cons_zero]
        | 1, _, h2, h3 =>
          simp [Region.binds] at h2 h3
          refine wpOp_step rfl (fun K hK => ?_)
          obtain rfl := hin.h0 h3
          simp only [put15, Act.put, List.setIfInBounds_toArray, List.set_cons_succ, List.set_cons_zero]
          go_simp
          refine hK _ _ ⟨b0, true, b2, b3, b4, b5, b6, b7, b8, b9, _, (.iface 75 (.agg #[.string a, .int .i64 m, .int .i64 t, .int .i64 z, .slice X ch.length cx])), x66, x67, x68, x69, x10, x11, rfl, ?_, hin.ld1⟩
          simp only [put15, Act.put, List.setIfInBounds_toArray, List.set_cons_succ, List.set_cons_zero]
        | 2, _, h2, h3 =>
          simp [Region.binds] at h2 h3
          refine wpOp_step rfl (fun K hK => ?_)
          obtain rfl := hin.h1 h3
          subst h2
          simp only [put15, Act.put, List.setIfInBounds_toArray, List.set_cons_succ, List.set_cons_zero]
          go_simp
          refine (HTD.out _ (HSA.out.below hin.bel)).mono ?_
          rintro e wB ⟨E1, c1, rfl, hs1, hg1, hn1, hb1⟩
          go_simp
          refine hK _ _ ⟨b0, b1, true, b3, b4, b5, b6, b7, b8, b9, x64, _, _, x67, x68, x69, x10, x11, rfl, ?_, hin.call2 hs1 hg1 hn1 hb1⟩
          simp only [put15, Act.put, List.setIfInBounds_toArray, List.set_cons_succ, List.set_cons_zero]
          try rfl
        | 3, _, h2, h3 =>
          simp [Region.binds] at h2 h3
          refine wpOp_step rfl (fun K hK => ?_)
          have hpb := HQA.out.below hin.bel HQA.out.lt
          have p0 : W.cell? ⟨w4.heap.size, 0, none⟩ = some (.string a) := hpb.cell 0
          have p1 : W.cell? ⟨w4.heap.size, 1, none⟩ = some (.int .i64 m) := hpb.cell 1
          have p2 : W.cell? ⟨w4.heap.size, 2, none⟩ = some (.int .i64 t) := hpb.cell 2
          have p3 : W.cell? ⟨w4.heap.size, 3, none⟩ = some (.int .i64 z) := hpb.cell 3
          have p4 : W.cell? ⟨w4.heap.size, 4, none⟩ = some (.slice X ch.length cx) := hpb.cell 4
          clear hpb
          simp only [put15, Act.put, List.setIfInBounds_toArray, List.set_cons_succ, List.set_cons_zero]
          go_simp
          refine hK _ _ ⟨b0, b1, b2, true, b4, b5, b6, b7, b8, b9, x64, x65, x66, (.agg #[.string a, .int .i64 m, .int .i64 t, .int .i64 z, .slice X ch.length cx]), x68, x69, x10, x11, rfl, ?_, hin.ld3⟩
          simp only [put15, Act.put, List.setIfInBounds_toArray, List.set_cons_succ, List.set_cons_zero]
        | 4, _, h2, h3 =>
          simp [Region.binds] at h2 h3
          refine wpOp_step rfl (fun K hK => ?_)
          obtain rfl := hin.h3 h3
          simp only [put15, Act.put, List.setIfInBounds_toArray, List.set_cons_succ, List.set_cons_zero]
          go_simp
          refine hK _ _ ⟨b0, b1, b2, b3, true, b5, b6, b7, b8, b9, x64, x65, x66, _, (.iface 75 (.agg #[.string a, .int .i64 m, .int .i64 t, .int .i64 z, .slice X ch.length cx])), x69, x10, x11, rfl, ?_, hin.ld4⟩
          simp only [put15, Act.put, List.setIfInBounds_toArray, List.set_cons_succ, List.set_cons_zero]
        | 5, _, h2, h3 =>
          simp [Region.binds] at h2 h3
          refine wpOp_step rfl (fun K hK => ?_)
          obtain rfl := hin.h4 h3.1
          subst h2
          simp only [put15, Act.put, List.setIfInBounds_toArray, List.set_cons_succ, List.set_cons_zero]
          go_simp
          refine (HTD.out _ (HSA.out.below hin.bel)).mono ?_
          rintro e wB ⟨E1, c1, rfl, hs1, hg1, hn1, hb1⟩
          go_simp
          refine hK _ _ ⟨b0, b1, b2, b3, b4, true, b6, b7, b8, b9, x64, x65, x66, x67, _, _, x10, x11, rfl, ?_, hin.call5 hs1 hg1 hn1 hb1⟩
          simp only [put15, Act.put, List.setIfInBounds_toArray, List.set_cons_succ, List.set_cons_zero]
          try rfl
        | 6, _, h2, h3 =>
          simp [Region.binds] at h2 h3
          refine wpOp_step rfl (fun K hK => ?_)
          subst h2
          simp only [put15, Act.put, List.setIfInBounds_toArray, List.set_cons_succ, List.set_cons_zero]
          go_simp
          refine hK _ _ ⟨b0, b1, b2, b3, b4, b5, true, b7, b8, b9, x64, x65, x66, x67, x68, x69, _, x11, rfl, ?_, hin.al6 _ rfl⟩
          simp only [put15, Act.put, List.setIfInBounds_toArray, List.set_cons_succ, List.set_cons_zero]
        | 7, _, h2, h3 =>
          simp [Region.binds] at h2 h3
          refine wpOp_step rfl (fun K hK => ?_)
          subst h2
          simp only [put15, Act.put, List.setIfInBounds_toArray, List.set_cons_succ, List.set_cons_zero]
          go_simp
          refine hK _ _ ⟨b0, b1, b2, b3, b4, b5, b6, true, b8, b9, x64, x65, x66, x67, x68, x69, x10, _, rfl, ?_, hin.al7 _ rfl⟩
          simp only [put15, Act.put, List.setIfInBounds_toArray, List.set_cons_succ, List.set_cons_zero]
        | 8, _, h2, h3 =>
          simp [Region.binds] at h2 h3
          have ep : b6 = true := by simp only [h3]
          have et : b2 = true := by simp only [h3]
          clear h3
          subst ep et
          obtain ⟨E1, c1, rfl, hs1, hn1⟩ := hin.h2 rfl
          obtain ⟨g1, cs1, rfl, hg1, hb1, hc1, hv1⟩ := hin.h6 rfl
          obtain ⟨z0, z1, z2, z3, z4, z5, z6, rfl⟩ := arr7x cs1 hc1
          have hin := hin.st8
          have q0 : W.cell? ⟨g1, 0, none⟩ = some z0 := hb1.cell 0
          have q1 : W.cell? ⟨g1, 1, none⟩ = some z1 := hb1.cell 1
          have q2 : W.cell? ⟨g1, 2, none⟩ = some z2 := hb1.cell 2
          have q3 : W.cell? ⟨g1, 3, none⟩ = some z3 := hb1.cell 3
          have q4 : W.cell? ⟨g1, 4, none⟩ = some z4 := hb1.cell 4
          have q5 : W.cell? ⟨g1, 5, none⟩ = some z5 := hb1.cell 5
          have q6 : W.cell? ⟨g1, 6, none⟩ = some z6 := hb1.cell 6
          have f0 := hb1.frozen 0
          have f1 := hb1.frozen 1
          have f2 := hb1.frozen 2
          have f3 := hb1.frozen 3
          have f4 := hb1.frozen 4
          have f5 := hb1.frozen 5
          have f6 := hb1.frozen 6
          unfold recC
          refine wpOp_step rfl (fun K hK => ?_)
          simp only [put15, Act.put, List.setIfInBounds_toArray, List.set_cons_succ, List.set_cons_zero]
          go_simp
          refine hK _ _ ⟨_, _, _, _, _, _, _, _, _, _, _, _, _, _, _, _, _, _, rfl, ?_, hin⟩
          simp only [put15, Act.put, List.setIfInBounds_toArray, List.set_cons_succ, List.set_cons_zero]
          try rfl
        | 9, _, h2, h3 =>
          simp [Region.binds] at h2 h3
          have ep : b7 = true := by simp only [h3]
          have et : b5 = true := by simp only [h3]
          clear h3
          subst ep et
          obtain ⟨E1, c1, rfl, hs1, hn1⟩ := hin.h5 rfl
          obtain ⟨g1, cs1, rfl, hg1, hb1, hc1, hv1⟩ := hin.h7 rfl
          obtain ⟨z0, z1, z2, z3, z4, z5, z6, rfl⟩ := arr7x cs1 hc1
          have hin := hin.st9
          have q0 : W.cell? ⟨g1, 0, none⟩ = some z0 := hb1.cell 0
          have q1 : W.cell? ⟨g1, 1, none⟩ = some z1 := hb1.cell 1
          have q2 : W.cell? ⟨g1, 2, none⟩ = some z2 := hb1.cell 2
          have q3 : W.cell? ⟨g1, 3, none⟩ = some z3 := hb1.cell 3
          have q4 : W.cell? ⟨g1, 4, none⟩ = some z4 := hb1.cell 4
          have q5 : W.cell? ⟨g1, 5, none⟩ = some z5 := hb1.cell 5
          have q6 : W.cell? ⟨g1, 6, none⟩ = some z6 := hb1.cell 6
          have f0 := hb1.frozen 0
          have f1 := hb1.frozen 1
          have f2 := hb1.frozen 2
          have f3 := hb1.frozen 3
          have f4 := hb1.frozen 4
          have f5 := hb1.frozen 5
          have f6 := hb1.frozen 6
          unfold recC
          refine wpOp_step rfl (fun K hK => ?_)
          simp only [put15, Act.put, List.setIfInBounds_toArray, List.set_cons_succ, List.set_cons_zero]
          go_simp
          refine hK _ _ ⟨_, _, _, _, _, _, _, _, _, _, _, _, _, _, _, _, _, _, rfl, ?_, hin⟩
          simp only [put15, Act.put, List.setIfInBounds_toArray, List.set_cons_succ, List.set_cons_zero]
          try rfl
    case rest =>
      obtain ⟨hbC, ga, gb, Ea, ca, Eb, cb, rfl, rfl, hne, hga, hgb, hba, hbb, hsa, hsb, hna, hnb⟩ := hcut.out
      have hba' : Blk wc ga 72 #[.int .i64 2, .string a, .int .i64 m, .int .i64 t, .int .i64 z, .slice Ea ch.length ca, .string noB] := hba
      have hbb' : Blk wc gb 72 #[.int .i64 2, .string a, .int .i64 m, .int .i64 t, .int .i64 z, .slice Eb ch.length cb, .string noB] := hbb
      have HA19 := Lib.hid hba'
      have HB19 := Lib.hid hbb'
      have HSA19 := Lib.hid hsa
      have HSB19 := Lib.hid hsb
      have HK19 := Lib.hid (HKA.out.below hbC HKA.out.lt)
      have HO19 := Lib.hid (recsA_one (x := ⟨2, a, m, t, z, ch, noB⟩) (HOA.out.below hbC HOA.out.lt) (HTA.out.below hbC))
      have HW19 := Lib.hid (HBA.out.trans (hbC.mono HBA.out.size))
      clear hba hbb hba' hbb' hsa hsb hna hnb hcut HTD hne hga hgb hbC
      have HC19 := Lib.hid (show ch.length ≤ 9223372036854775807 by omega)
      go_upto_region 19 with fail
      have HS0 := Lib.hid (ks19 HA19.out HB19.out HK19.out (Below.refl wc.heap.size wc))
      go_region_held3 (fun W => W.cell? ⟨ga, 0, none⟩ = some (.int .i64 2) ∧ W.cell? ⟨ga, 1, none⟩ = some (.string a) ∧ W.cell? ⟨ga, 2, none⟩ = some (.int .i64 m) ∧ W.cell? ⟨ga, 3, none⟩ = some (.int .i64 t) ∧ W.cell? ⟨ga, 4, none⟩ = some (.int .i64 z) ∧ W.cell? ⟨ga, 5, none⟩ = some (.slice Ea ch.length ca) ∧ W.cell? ⟨ga, 6, none⟩ = some (.string noB) ∧ W.cell? ⟨gb, 0, none⟩ = some (.int .i64 2) ∧ W.cell? ⟨gb, 1, none⟩ = some (.string a) ∧ W.cell? ⟨gb, 2, none⟩ = some (.int .i64 m) ∧ W.cell? ⟨gb, 3, none⟩ = some (.int .i64 t) ∧ W.cell? ⟨gb, 4, none⟩ = some (.int .i64 z) ∧ W.cell? ⟨gb, 5, none⟩ = some (.slice Eb ch.length cb) ∧ W.cell? ⟨gb, 6, none⟩ = some (.string noB) ∧ W.cell? ⟨w.heap.size, 6, none⟩ = some (.string tg) ∧ Below wc.heap.size wc W)
        (first | exact ks19 HA19.out HB19.out HK19.out (by repeat (first | exact bel19 (by assumption) | exact Below.refl _ _ | assumption | apply balloc | apply bdrew)))
        (first
          | (go_at_call 25; (fail_if_success (have := hk8)); ((with_reducible refine (same_twoD (HSA19.out.below (by repeat (first | exact bel19 (by assumption) | exact Below.refl _ _ | assumption | apply balloc | apply bdrew))) (HO19.out.below (by repeat (first | exact bel19 (by assumption) | exact Below.refl _ _ | assumption | apply balloc | apply bdrew))) HC19.out).mono ?_); rintro e wD ⟨rfl, hbD⟩; have hk8 := ks19 HA19.out HB19.out HK19.out (Below.trans (by repeat (first | exact bel19 (by assumption) | exact Below.refl _ _ | assumption | apply balloc | apply bdrew)) (hbD.mono (Below.size (by repeat (first | exact bel19 (by assumption) | exact Below.refl _ _ | assumption | apply balloc | apply bdrew)))))))
          | (go_at_call 25; ((with_reducible refine (same_two (HSB19.out.below (by repeat (first | exact bel19 (by assumption) | exact Below.refl _ _ | assumption | apply balloc | apply bdrew))) (HO19.out.below (by repeat (first | exact bel19 (by assumption) | exact Below.refl _ _ | assumption | apply balloc | apply bdrew))) HC19.out).mono ?_); rintro e wE ⟨rfl, hbE⟩; have hk9 := ks19 HA19.out HB19.out HK19.out (Below.trans (by repeat (first | exact bel19 (by assumption) | exact Below.refl _ _ | assumption | apply balloc | apply bdrew)) (hbE.mono (Below.size (by repeat (first | exact bel19 (by assumption) | exact Below.refl _ _ | assumption | apply balloc | apply bdrew)))))))
          | (go_at_call 45; (with_reducible refine (HTG.out _).mono ?_); rintro e wF ⟨rfl, hbF⟩; have hk10 := ks19 HA19.out HB19.out HK19.out (Below.trans (by repeat (first | exact bel19 (by assumption) | exact Below.refl _ _ | assumption | apply balloc | apply bdrew)) (hbF.mono (Below.size (by repeat (first | exact bel19 (by assumption) | exact Below.refl _ _ | assumption | apply balloc | apply bdrew))))))
          | (go_at_call 46; (with_reducible refine (HRT.out _).mono ?_); rintro e wG ⟨rfl, rfl⟩))
      all_goals
        have HF := Lib.hid (HW19.out.trans ((bel19 hk10).mono HW19.out.size))
        clear hk8 hk9 hk10 hbD hbE hbF HS0
        go_wp2
        go_ret
        exact ⟨rfl, HF.out⟩
end Go.Proofs.YtaoejgnfoecpfaaDoor
