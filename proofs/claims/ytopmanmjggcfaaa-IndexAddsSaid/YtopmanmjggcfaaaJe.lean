/- The document's index: Read, what is known on the way. -/
import Derived.Test.YtopmanmjggcfaaaJd
import Derived.Test.YtopmanmjggcfaaaIf
import Derived.Deep.AppendLies
namespace Go.Proofs.Ytopmanmjggcfaaa
open Go.RowKit

/-- while bytes are read -/
structure RdAt (w0 w : World) (P : List ByteArray) (A : Option Addr) (c : Nat) (L : List Pl) (B : Option Addr) (d : Nat) (s : ByteArray) (bad : Bool) : Prop where
  res : Blk w w0.heap.size 43 #[.slice none 0 0, .slice none 0 0]
  cur : Rd w 79 (w0.heap.size + 1) s bad
  blk : Blk w (w0.heap.size + 2) 43 #[.slice A P.length c, .slice B L.length d]
  prow : w.ownsRow (w0.heap.size + 3) 9 1 (.slice A P.length c) P.length (strsV P)
  lrow : w.ownsRow (w0.heap.size + 3) 50 7 (.slice B L.length d) L.length (plsC L)
  apt : ∀ k, (Value.slice A P.length c).ownBlock = some k → (Value.slice B L.length d).ownBlock ≠ some k
  bel : Below w0.heap.size w0 w
  sz : w0.heap.size + 3 ≤ w.heap.size
theorem RdAt.made (w : World) (s : ByteArray) : RdAt w (((w.alloc (.cells #[.slice none 0 0, .slice none 0 0] 43)).alloc (.cells #[.string s, .bool false] 79)).alloc (.cells #[.slice none 0 0, .slice none 0 0] 43)) [] none 0 [] none 0 s false := by
  have h1 := Blk.new w 43 #[.slice none 0 0, .slice none 0 0]
  have h2 := Blk.new (w.alloc (.cells #[.slice none 0 0, .slice none 0 0] 43)) 79 #[.string s, .bool false]
  rw [World.size_alloc] at h2
  have h3 := Blk.new ((w.alloc (.cells #[.slice none 0 0, .slice none 0 0] 43)).alloc (.cells #[.string s, .bool false] 79)) 43 #[.slice none 0 0, .slice none 0 0]
  rw [World.size_alloc, World.size_alloc] at h3
  exact ⟨(h1.alloc _).alloc _, h2.alloc _, h3, ⟨rfl, Or.inl ⟨rfl, rfl⟩⟩, ⟨rfl, Or.inl ⟨rfl, rfl⟩⟩, (fun k e => by cases e), (((Below.refl _ w).alloc (Nat.le_refl _) _).alloc (by simp) _).alloc (by simp; omega) _, by simp⟩
theorem RdAt.read {w0 w w' : World} {P : List ByteArray} {A : Option Addr} {c : Nat} {L : List Pl} {B : Option Addr} {d : Nat} {s s' : ByteArray} {bad bad' : Bool} (h : RdAt w0 w P A c L B d s bad) (hr : Rd w' 79 (w0.heap.size + 1) s' bad') (hg : w.grownBy w' (some (w0.heap.size + 1))) : RdAt w0 w' P A c L B d s' bad' :=
  ⟨h.res.grown hg (by simp), hr, h.blk.grown hg (by simp), h.prow.kept hg (own_far h.prow (by omega)), h.lrow.kept hg (own_far h.lrow (by omega)), h.apt, h.bel.grown hg (by have := h.sz; omega) (fun k e => by cases e; omega), Nat.le_trans h.sz hg.size⟩
theorem RdAt.below {w0 w w' : World} {P : List ByteArray} {A : Option Addr} {c : Nat} {L : List Pl} {B : Option Addr} {d : Nat} {s : ByteArray} {bad : Bool} (h : RdAt w0 w P A c L B d s bad) (hb : Below w.heap.size w w') : RdAt w0 w' P A c L B d s bad :=
  ⟨h.res.below hb h.res.lt, Blk.below h.cur hb h.cur.lt, h.blk.below hb h.blk.lt, own_at h.prow (fun j hj => hb.block j (h.prow.lt j hj).2), own_at h.lrow (fun j hj => hb.block j (h.lrow.lt j hj).2), h.apt, h.bel.trans (hb.mono (by have := h.sz; omega)), Nat.le_trans h.sz hb.size⟩
/-- a pack more -/
theorem RdAt.pack {w0 w w5 : World} {P : List ByteArray} {A : Option Addr} {c : Nat} {L : List Pl} {B : Option Addr} {d g cap : Nat} {s t : ByteArray} {bad : Bool} (h : RdAt w0 w P A c L B d s bad)
    (ho : w5.ownsRow (w0.heap.size + 3) 9 1 (.slice (some ⟨g, 0, none⟩) (P.length + 1) cap) (P.length + 1) (strsV P ++ [.string t])) (hg : w.grownBy w5 (Value.slice A P.length c).ownBlock) (hl : (Value.slice A P.length c).ownBlock = some g ∨ g = w.heap.size + 1 ∨ g = w.heap.size) :
    RdAt w0 (w5.setCell ⟨w0.heap.size + 2, 0, none⟩ (.slice (some ⟨g, 0, none⟩) (P.length + 1) cap)) (P ++ [t]) (some ⟨g, 0, none⟩) cap L B d s bad := by
  have hlb : ∀ k, (Value.slice B L.length d).ownBlock = some k → k ≠ g := fun k hk e => by
    subst e
    rcases hl with hl | hl | hl
    · exact h.apt k hl hk
    · have := (h.lrow.lt k hk).2; omega
    · have := (h.lrow.lt k hk).2; omega
  have hgb : w0.heap.size + 3 ≤ g := (ho.lt g rfl).1
  have e1 : (P ++ [t]).length = P.length + 1 := by simp
  have e2 : strsV (P ++ [t]) = strsV P ++ [.string t] := by simp [strsV]
  have hlk : (Value.slice B L.length d).ownBlock = none ∨ (Value.slice B L.length d).ownBlock ≠ (Value.slice A P.length c).ownBlock := by
    cases hv : (Value.slice B L.length d).ownBlock with
    | none => exact .inl rfl
    | some k => exact .inr fun e => h.apt k e.symm hv
  refine ⟨(h.res.grown hg (own_ne h.prow (by omega))).far (by simp) _, Blk.far (Blk.grown h.cur hg (own_ne h.prow (by omega))) (by simp) _, ?_, ?_, ?_, ?_, ?_, ?_⟩
  · have := (h.blk.grown hg (own_ne h.prow (by omega))).set_ 0 (.slice (some ⟨g, 0, none⟩) (P.length + 1) cap)
    rw [e1]
    simpa using this
  · rw [e1, e2]
    exact own_at ho fun j hj => Below.heap_setCell _ _ _ _ (by
      obtain rfl : g = j := by simpa [Value.ownBlock] using hj
      simp; omega)
  · exact own_at (h.lrow.kept hg hlk) fun j hj => Below.heap_setCell _ _ _ _ (by
      have := (h.lrow.lt j hj).1
      simp; omega)
  · intro k hk e
    obtain rfl : g = k := by simpa [Value.ownBlock] using hk
    exact hlb g e rfl
  · exact (h.bel.grown hg (by have := h.sz; omega) (fun k e => by have := (h.prow.lt k e).1; omega)).setCell (p := ⟨w0.heap.size + 2, 0, none⟩) (by simp) _
  · rw [World.size_setCell]; exact Nat.le_trans h.sz hg.size
/-- a place more -/
theorem RdAt.place {w0 w w5 : World} {P : List ByteArray} {A : Option Addr} {c : Nat} {L : List Pl} {B : Option Addr} {d g cap : Nat} {s : ByteArray} {q : Pl} {bad : Bool} (h : RdAt w0 w P A c L B d s bad)
    (ho : w5.ownsRow (w0.heap.size + 3) 50 7 (.slice (some ⟨g, 0, none⟩) (L.length + 1) cap) (L.length + 1) (plsC L ++ plC q)) (hg : w.grownBy w5 (Value.slice B L.length d).ownBlock) (hl : (Value.slice B L.length d).ownBlock = some g ∨ g = w.heap.size + 1 ∨ g = w.heap.size) :
    RdAt w0 (w5.setCell ⟨w0.heap.size + 2, 1, none⟩ (.slice (some ⟨g, 0, none⟩) (L.length + 1) cap)) P A c (L ++ [q]) (some ⟨g, 0, none⟩) cap s bad := by
  have hpb : ∀ k, (Value.slice A P.length c).ownBlock = some k → k ≠ g := fun k hk e => by
    subst e
    rcases hl with hl | hl | hl
    · exact h.apt k hk hl
    · have := (h.prow.lt k hk).2; omega
    · have := (h.prow.lt k hk).2; omega
  have hgb : w0.heap.size + 3 ≤ g := (ho.lt g rfl).1
  have e1 : (L ++ [q]).length = L.length + 1 := by simp
  have hpk : (Value.slice A P.length c).ownBlock = none ∨ (Value.slice A P.length c).ownBlock ≠ (Value.slice B L.length d).ownBlock := by
    cases hv : (Value.slice A P.length c).ownBlock with
    | none => exact .inl rfl
    | some k => exact .inr fun e => h.apt k hv e.symm
  refine ⟨(h.res.grown hg (own_ne h.lrow (by omega))).far (by simp) _, Blk.far (Blk.grown h.cur hg (own_ne h.lrow (by omega))) (by simp) _, ?_, ?_, ?_, ?_, ?_, ?_⟩
  · have := (h.blk.grown hg (own_ne h.lrow (by omega))).set_ 1 (.slice (some ⟨g, 0, none⟩) (L.length + 1) cap)
    rw [e1]
    simpa using this
  · exact own_at (h.prow.kept hg hpk) fun j hj => Below.heap_setCell _ _ _ _ (by
      have := (h.prow.lt j hj).1
      simp; omega)
  · rw [e1, plsC_snoc]
    exact own_at ho fun j hj => Below.heap_setCell _ _ _ _ (by
      obtain rfl : g = j := by simpa [Value.ownBlock] using hj
      simp; omega)
  · intro k hk e
    obtain rfl : g = k := by simpa [Value.ownBlock] using e
    exact hpb g hk rfl
  · exact (h.bel.grown hg (by have := h.sz; omega) (fun k e => by have := (h.lrow.lt k e).1; omega)).setCell (p := ⟨w0.heap.size + 2, 1, none⟩) (by simp) _
  · rw [World.size_setCell]; exact Nat.le_trans h.sz hg.size
def RReadPost (s : ByteArray) (w : World) (e : Ending) (w' : World) : Prop :=
  (decI s = none ∧ (∃ A n c B m d, e = .returned (.tuple #[.agg #[.slice A n c, .slice B m d], .bool false])) ∧ Below w.heap.size w w') ∨
  (∃ X A c B d, decI s = some X ∧ e = .returned (.tuple #[rixV X.packs (valsI X) A c B d, .bool true]) ∧ StrsA w' w'.heap.size A X.packs ∧ RowA w' w'.heap.size 7 B ((valsI X).map plC) ∧ Below w.heap.size w w')
theorem rread_none {s : ByteArray} {w w' : World} {A B : Option Addr} {n c m d : Nat} (hd : decI s = none) (hb : Below w.heap.size w w') : RReadPost s w (.returned (.tuple #[.agg #[.slice A n c, .slice B m d], .bool false])) w' := .inl ⟨hd, ⟨A, n, c, B, m, d, rfl⟩, hb⟩
/-- the name of the last place -/
def lastN (acc : List Pl) : ByteArray := match acc.getLast? with
  | none => ⟨#[]⟩
  | some p => p.head.name
theorem lastN_snoc (acc : List Pl) (p : Pl) : lastN (acc ++ [p]) = p.head.name := by unfold lastN; simp
theorem lastN_at {acc : List Pl} (h : 0 < acc.length) : lastN acc = (acc[acc.length - 1]'(by omega)).head.name := by
  unfold lastN
  rw [List.getLast?_eq_getElem?, List.getElem?_eq_getElem (by omega)]
theorem lastN_eq {acc : List Pl} {q : Nat} (h : acc.length = q + 1) (hq : q < acc.length) : lastN acc = acc[q].head.name := by
  unfold lastN
  rw [List.getLast?_eq_getElem?, h, Nat.add_sub_cancel, List.getElem?_eq_getElem hq]
/-- what is read behind some places -/
def dec2 (s0 : ByteArray) (P : List ByteArray) (n : Nat) (acc : List Pl) (s : ByteArray) (bad : Bool) : Prop := decI s0 = if bad = true ∨ dupP P = true then none else decQ P n (lastN acc) acc s
theorem dec2_start {s0 : ByteArray} {P : List ByteArray} {s s1 : ByteArray} {b b1 : Bool} {m : Nat} (h : (rdPs (numI s0 false).1 (numI s0 false).2.1 (numI s0 false).2.2) = (P, s, b)) (hm : numI s b = (m, s1, b1)) : dec2 s0 P m [] s1 b1 := by
  unfold dec2 decI
  simp only [h, hm]
  rfl
theorem numP_dup {P : List ByteArray} (h : ∀ j (hj : j < P.length), numP P P[j] = j) : dupP P = false := by
  rw [dupP_iff, List.nodup_iff_pairwise_ne, List.pairwise_iff_getElem]
  intro i j hi hj hij e
  have h1 := h i hi
  have h2 := h j hj
  rw [e] at h1
  omega
theorem numP_dup2 {P : List ByteArray} {j : Nat} (hj : j < P.length) (h : numP P P[j] ≠ j) : dupP P = true := by
  cases hd : dupP P with
  | true => rfl
  | false =>
    have := idx_at (dupP_iff.1 hd) hj
    rw [numP_in (List.getElem_mem hj), this] at h
    exact absurd rfl h
end Go.Proofs.Ytopmanmjggcfaaa
