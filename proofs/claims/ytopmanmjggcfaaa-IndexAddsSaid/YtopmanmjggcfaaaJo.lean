/- The index's laws: both indexes side by side (for IndexAdds). -/
import Derived.Test.YtopmanmjggcfaaaJm
namespace Go.Proofs.Ytopmanmjggcfaaa
open Go.RowKit

/-- a number that is cut to fit -/
def clN (m : Int) : Int := max 0 (min m 4294967295)
theorem clN_le (m : Int) : 0 ≤ clN m ∧ clN m ≤ 4294967295 := by unfold clN; omega
def clH (h : Hd) : Hd := ⟨h.name, clN h.method, h.crc, clN h.packed, clN h.size, clN h.at_⟩
def clHs (l : List Hd) : List Hd := (l.take 12).map clH
/-- a pack by its name and its heads -/
structure Pk where
  name : ByteArray
  heads : List Hd
/-- the index of packs -/
def pkIx (l : List Pk) : Ix := l.foldl (fun X p => X.add p.name (clHs p.heads)) ⟨[], []⟩
theorem pkIx_snoc (l : List Pk) (k : Nat) (h : k < l.length) : pkIx (l.take (k + 1)) = (pkIx (l.take k)).add l[k].name (clHs l[k].heads) := by
  unfold pkIx
  rw [List.take_succ_eq_append_getElem h, List.foldl_append]
  rfl
theorem clHs_len (l : List Hd) : (clHs l).length ≤ 12 := by unfold clHs; rw [List.length_map, List.length_take]; omega
/-- a pack whose sizes and sums fit -/
def PkOk (p : Pk) : Prop := p.name.size ≤ 140737488355328 ∧ ∀ h ∈ p.heads, h.name.size ≤ 140737488355328 ∧ 0 ≤ h.crc ∧ h.crc ≤ 4294967295
theorem clHs_ok {p : Pk} (h : PkOk p) : ∀ g ∈ clHs p.heads, g.name.size ≤ 140737488355328 ∧ HdB g := by
  intro g hg
  unfold clHs at hg
  obtain ⟨x, hx, rfl⟩ := List.mem_map.1 hg
  obtain ⟨h1, h2, h3⟩ := h.2 x (List.mem_of_mem_take hx)
  refine ⟨h1, ?_⟩
  unfold HdB clH
  simp only
  exact ⟨(clN_le _).1, (clN_le _).2, h2, h3, (clN_le _).1, (clN_le _).2, (clN_le _).1, (clN_le _).2, (clN_le _).1, (clN_le _).2⟩
theorem pkIx_few {l : List Pk} (hl : ∀ p ∈ l, PkOk p) : ∀ k, k ≤ l.length → (pkIx (l.take k)).Few k (12 * k)
  | 0, _ => by
    have : pkIx (l.take 0) = ⟨[], []⟩ := by rw [List.take_zero]; rfl
    rw [this]
    exact Ix.few_none
  | k + 1, hk => by
    rw [pkIx_snoc l k (by omega)]
    have h1 := (pkIx_few hl k (by omega)).add l[k].name (clHs l[k].heads) (hl _ (List.getElem_mem (by omega))).1 (clHs_ok (hl _ (List.getElem_mem (by omega))))
    have h2 := clHs_len l[k].heads
    exact ⟨h1.ok, h1.np, Nat.le_trans h1.nq (by omega), h1.sp, h1.sq⟩
theorem valsI_add {X : Ix} (h : X.Ok) (pack : ByteArray) (hs : List Hd) : hs.foldl (addR pack) (valsI X) = valsI (X.add pack hs) := by
  have h1 := keyed_adds pack hs (valsI X)
  have h2 : keyed (valsI X) = X.places := keyed_of h.key
  rw [h2] at h1
  have h3 := congrArg (List.map (·.2)) h1
  rw [keyed_vals] at h3
  exact h3
/-- the program's index and the document's -/
structure Both (w0 w : World) (b y : Nat) (mb rb : Option Nat) (X : Ix) (A : Option Addr) (c : Nat) (B : Option Addr) (d : Nat) : Prop where
  xi : OneIx w0 w b mb rb X
  yb : Blk w y 43 #[.slice A X.packs.length c, .slice B (valsI X).length d]
  st : StrsA w w.heap.size A X.packs
  nl : A = none → c = 0
  ro : RowA w w.heap.size 7 B ((valsI X).map plC)
  fy : ¬ IxF b mb rb y
  fa : ∀ g o, A = some ⟨g, o, none⟩ → g < w.heap.size ∧ ¬ IxF b mb rb g ∧ g ≠ y
  fb : ∀ g o, B = some ⟨g, o, none⟩ → g < w.heap.size ∧ ¬ IxF b mb rb g ∧ g ≠ y
  ly : w0.heap.size ≤ y
theorem Both.below {w0 w w' : World} {b y : Nat} {mb rb : Option Nat} {X : Ix} {A B : Option Addr} {c d : Nat} (h : Both w0 w b y mb rb X A c B d) (hb : Below w.heap.size w w') : Both w0 w' b y mb rb X A c B d :=
  ⟨h.xi.below hb, h.yb.below hb h.yb.lt, h.st.below hb, h.nl, h.ro.below hb, h.fy, (fun g o e => ⟨Nat.lt_of_lt_of_le (h.fa g o e).1 hb.size, (h.fa g o e).2⟩), (fun g o e => ⟨Nat.lt_of_lt_of_le (h.fb g o e).1 hb.size, (h.fb g o e).2⟩), h.ly⟩
theorem StrsA.block {w w' : World} {A : Option Addr} {l : List ByteArray} (h : StrsA w w.heap.size A l) (hs : w.heap.size ≤ w'.heap.size) (he : ∀ g o, A = some ⟨g, o, none⟩ → w'.heap[g]? = w.heap[g]?) : StrsA w' w'.heap.size A l := fun hl => by
  obtain ⟨g, o, rfl, h2, h3⟩ := h hl
  exact ⟨g, o, rfl, Nat.lt_of_lt_of_le h2 hs, fun j u hj => (World.cell?_of_block (he g o rfl)).trans (h3 j u hj)⟩
theorem RowA.block {w w' : World} {k : Nat} {A : Option Addr} {l : List (List Value)} (h : RowA w w.heap.size k A l) (hs : w.heap.size ≤ w'.heap.size) (he : ∀ g o, A = some ⟨g, o, none⟩ → w'.heap[g]? = w.heap[g]?) : RowA w' w'.heap.size k A l := fun hl => by
  obtain ⟨g, o, rfl, h2, h3⟩ := h hl
  exact ⟨g, o, rfl, Nat.lt_of_lt_of_le h2 hs, fun i c hc j u hj => (World.cell?_of_block (he g o rfl)).trans (h3 i c hc j u hj)⟩
/-- while the program's has a pack more than the document's -/
structure Half (w0 w : World) (b y : Nat) (mb rb : Option Nat) (X X' : Ix) (A : Option Addr) (c : Nat) (B : Option Addr) (d : Nat) : Prop where
  xi : OneIx w0 w b mb rb X'
  yb : Blk w y 43 #[.slice A X.packs.length c, .slice B (valsI X).length d]
  st : StrsA w w.heap.size A X.packs
  nl : A = none → c = 0
  ro : RowA w w.heap.size 7 B ((valsI X).map plC)
  fy : ¬ IxF b mb rb y
  fa : ∀ g o, A = some ⟨g, o, none⟩ → g < w.heap.size ∧ ¬ IxF b mb rb g ∧ g ≠ y
  fb : ∀ g o, B = some ⟨g, o, none⟩ → g < w.heap.size ∧ ¬ IxF b mb rb g ∧ g ≠ y
  ly : w0.heap.size ≤ y
theorem Both.half {w0 w w' : World} {b y : Nat} {mb rb mb' rb' : Option Nat} {X X' : Ix} {A B : Option Addr} {c d : Nat} (h : Both w0 w b y mb rb X A c B d) (hx : OneIx w0 w' b mb' rb' X') (hg : IxGo b mb rb w w' mb' rb') : Half w0 w' b y mb' rb' X X' A c B d := by
  have hn : ∀ g, g < w.heap.size → ¬ IxF b mb rb g → ¬ IxF b mb' rb' g := fun g h1 h2 h3 => by
    rcases go_new hg g h3 with e | e
    · exact h2 e
    · omega
  have hbl : ∀ g, g < w.heap.size → ¬ IxF b mb rb g → w'.heap[g]? = w.heap[g]? := fun g h1 h2 => hg.1.block g h1 h2
  refine ⟨hx, (hbl y h.yb.lt h.fy).trans h.yb, h.st.block hg.1.size (fun g o e => hbl g (h.fa g o e).1 (h.fa g o e).2.1), h.nl, h.ro.block hg.1.size (fun g o e => hbl g (h.fb g o e).1 (h.fb g o e).2.1), hn y h.yb.lt h.fy, ?_, ?_, h.ly⟩
  · intro g o e
    obtain ⟨e1, e2, e3⟩ := h.fa g o e
    exact ⟨Nat.lt_of_lt_of_le e1 hg.1.size, hn g e1 e2, e3⟩
  · intro g o e
    obtain ⟨e1, e2, e3⟩ := h.fb g o e
    exact ⟨Nat.lt_of_lt_of_le e1 hg.1.size, hn g e1 e2, e3⟩
theorem Half.both {w0 w w' : World} {b y : Nat} {mb rb : Option Nat} {X X' : Ix} {A B A' B' : Option Addr} {c d c' d' n m : Nat} (h : Half w0 w b y mb rb X X' A c B d) (hb : Below w.heap.size w w') (hst : StrsA w' w'.heap.size A' X'.packs) (hnl : A' = none → c' = 0) (hro : RowA w' w'.heap.size 7 B' ((valsI X').map plC))
    (na : NewAt w w' A A') (nb : NewAt w w' B B') (hn : n = X'.packs.length) (hm : m = (valsI X').length) : Both w0 ((w'.setCell ⟨y, 0, none⟩ (.slice A' n c')).setCell ⟨y, 1, none⟩ (.slice B' m d')) b y mb rb X' A' c' B' d' := by
  subst hn hm
  have hx := h.xi.below hb
  have hy := h.yb.below hb h.yb.lt
  have hyl := h.yb.lt
  have hf : ∀ k, k ≠ y → ((w'.setCell ⟨y, 0, none⟩ (.slice A' X'.packs.length c')).setCell ⟨y, 1, none⟩ (.slice B' (valsI X').length d')).heap[k]? = w'.heap[k]? := fun k hk => by
    rw [Below.heap_setCell _ _ _ _ hk, Below.heap_setCell _ _ _ _ hk]
  have hsz : ((w'.setCell ⟨y, 0, none⟩ (.slice A' X'.packs.length c')).setCell ⟨y, 1, none⟩ (.slice B' (valsI X').length d')).heap.size = w'.heap.size := by rw [World.size_setCell, World.size_setCell]
  have hfar : ∀ {A0 A1 : Option Addr}, NewAt w w' A0 A1 → (∀ g o, A0 = some ⟨g, o, none⟩ → g < w.heap.size ∧ ¬ IxF b mb rb g ∧ g ≠ y) → ∀ g o, A1 = some ⟨g, o, none⟩ → g < w'.heap.size ∧ ¬ IxF b mb rb g ∧ g ≠ y := by
    rintro A0 A1 (rfl | hq) h0 g o e
    · obtain ⟨e1, e2, e3⟩ := h0 g o e
      exact ⟨Nat.lt_of_lt_of_le e1 hb.size, e2, e3⟩
    · obtain ⟨e1, e2⟩ := hq g o e
      refine ⟨e2, fun e3 => ?_, by omega⟩
      have := h.xi.ix.lt g e3
      omega
  refine ⟨⟨hx.ix.block (fun k hk => hf k (fun e => h.fy (e ▸ hk))), hx.lo, (hx.bel.setCell (p := ⟨y, 0, none⟩) h.ly _).setCell (p := ⟨y, 1, none⟩) h.ly _⟩, ?_, hst.block (by rw [hsz]; exact Nat.le_refl _) (fun g o e => hf g (hfar na h.fa g o e).2.2), hnl, hro.block (by rw [hsz]; exact Nat.le_refl _) (fun g o e => hf g (hfar nb h.fb g o e).2.2), h.fy, ?_, ?_, h.ly⟩
  · have := (hy.set_ 0 (.slice A' X'.packs.length c')).set_ 1 (.slice B' (valsI X').length d')
    simpa using this
  · intro g o e
    rw [hsz]
    exact hfar na h.fa g o e
  · intro g o e
    rw [hsz]
    exact hfar nb h.fb g o e
end Go.Proofs.Ytopmanmjggcfaaa
