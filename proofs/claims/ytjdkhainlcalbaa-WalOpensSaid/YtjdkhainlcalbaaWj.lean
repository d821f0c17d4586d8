/- The log, its disk and a row of the law's own beside it. -/
import Derived.Test.YtjdkhainlcalbaaLawBytes
import Derived.Test.YtjdkhainlcalbaaAs
import Derived.Test.YtjdkhainlcalbaaSm
namespace Go.Proofs.Ytjdkhainlcalbaa
open Go.RowKit Go.Maps

theorem RowStr.keepB {w w' : World} {v : Value} {l : List ByteArray} (h : RowStr w v l) (hb : Below w.heap.size w w') : RowStr w' v l := by
  rcases h with h | ⟨g, cap, hv, hc⟩
  · exact Or.inl h
  · exact Or.inr ⟨g, cap, hv, fun j hj => (hb.cell (p := ⟨g, j, none⟩) (cell_lt (hc j hj) : (⟨g, j, none⟩ : Addr).block < _)).trans (hc j hj)⟩
theorem sameI_zero (a b : List ByteArray) : (sameI a b == 0) = decide (a = b) := by
  unfold sameI; by_cases h : a = b <;> simp [h]

set_option maxHeartbeats 400000 in
set_option maxRecDepth 100000 in
theorem same15_any (lb b : Nat) (v vw : Value) (recs want : List ByteArray) (torn : Bool) (w : World) (h : LgAt w lb b v recs torn) (hw : RowStr w vw want) (hn : recs.length ≤ 1000000) (hn2 : want.length ≤ 1000000) :
    Calls Try.prog 43 #[.pointer (some ⟨lb, 0, none⟩), vw] w fun e w' => e = .returned (.bool (decide (recs = want))) ∧ Below w.heap.size w w' := by
  have HR := Lib.hid (records_any lb b v recs torn w h (by omega))
  have HX := Lib.hid fun u w' (hu : RowStr w' u recs) (hb : Below w.heap.size w w') => same_any u vw recs want w' hu (hw.keepB hb) hn hn2
  have HZ := Lib.hid (sameI_zero recs want)
  clear h hw
  go_enter Try.func43, Try.ntmps43
  go_wp2_with fail
  refine HR.out.mono ?_
  rintro e w1 ⟨u, rfl, ho, hb, ad, cp, rfl⟩
  have HU := Lib.hid (RowStr.of (ownsRow_base ho (Nat.zero_le _)))
  have HB := Lib.hid hb
  clear ho hb
  go_wp2_with fail
  refine (HX.out _ _ HU.out HB.out).mono ?_
  rintro e w2 ⟨rfl, n, rfl⟩
  generalize sameI recs want = si at *
  go_wp2
  go_ret
  exact ⟨ret_bool HZ.out, HB.out.trans (below_drewN _ _)⟩

structure WlRow (w0 w : World) (b : Nat) (D : Dk) (L : Lay) (lb : Nat) (v : Value) (recs : List ByteArray) (torn : Bool) (vw : Value) (want : List ByteArray) : Prop where
  up : WlUp w0 w b D L lb v recs torn
  row : w.ownsRow w0.heap.size 9 1 vw want.length (want.map .string)
  off : ∀ q, vw.ownBlock = some q → ¬ bothFoot b L lb v q

section
variable {w0 w w' : World} {b : Nat} {D D' : Dk} {L : Lay} {lb : Nat} {v vw : Value} {recs recs' want : List ByteArray} {torn torn' : Bool} {l : ByteArray} {files : List Fl} {i o : Nat} {t : Option Nat}
theorem WlRow.rd (h : WlRow w0 w b D L lb v recs torn vw want) : RowStr w vw want := RowStr.of (ownsRow_base h.row (Nat.zero_le _))
theorem WlRow.post (h : WlRow w0 w b D L lb v recs torn vw want) (hp : WlPost b L lb v D' recs' torn' w w') : ∃ L' v', WlRow w0 w' b D' L' lb v' recs' torn' vw want := by
  obtain ⟨L', v', h1, h2, h3⟩ := hp
  have hz := h.up.bel.size
  refine ⟨L', v', ⟨h1, h.up.bel.trans (h2.below hz fun k hk hm => by have := h.up.new k hm; omega), fun k hk => (h3 k hk).elim (h.up.new k) (fun e => by omega)⟩, ownsRow_keep h.row (fun q hq => h2.block q (ownsRow_lt h.row hq).2 (h.off q hq)), fun q hq hf => ?_⟩
  rcases h3 q hf with h4 | h4
  · exact h.off q hq h4
  · have := (ownsRow_lt h.row hq).2; omega
theorem WlRow.bel (h : WlRow w0 w b D L lb v recs torn vw want) (hb : Below w.heap.size w w') : WlRow w0 w' b D L lb v recs torn vw want :=
  ⟨h.up.up hb, ownsRow_keep h.row (fun q hq => hb.block q (ownsRow_lt h.row hq).2), h.off⟩
theorem WlUp.bothLt (h : WlUp w0 w b D L lb v recs torn) (k : Nat) (hk : bothFoot b L lb v k) : k < w.heap.size := hk.elim (h.both.dk.flt k) (h.both.lg.flt k)
/-- the row has grown, nothing else -/
theorem WlRow.grown {v2 : Value} {want2 : List ByteArray} (h : WlRow w0 w b D L lb v recs torn vw want) (hg : w.grownBy w' vw.ownBlock) (ho : w'.ownsRow w0.heap.size 9 1 v2 want2.length (want2.map .string))
    (hloc : ∀ q, v2.ownBlock = some q → vw.ownBlock = some q ∨ w.heap.size ≤ q) : WlRow w0 w' b D L lb v recs torn v2 want2 := by
  have hk : ∀ k, bothFoot b L lb v k → w'.heap[k]? = w.heap[k]? := fun k hk => hg.block k (h.up.bothLt k hk) (fun e => h.off k e.symm hk)
  refine ⟨⟨⟨h.up.both.dk.keepB fun k hm => hk k (Or.inl hm), h.up.both.lg.keepB fun k hm => hk k (Or.inr hm), h.up.both.sep⟩, below_grown h.up.bel h.up.bel.size h.row hg, h.up.new⟩, ho, fun q hq hf => ?_⟩
  rcases hloc q hq with e | e
  · exact h.off q e hf
  · have := h.up.bothLt q hf; omega
/-- the row is another one, that is new -/
theorem WlUp.withRow {w1 : World} {v2 : Value} {want2 : List ByteArray} (h : WlUp w0 w b D L lb v recs torn) (hb : Below w.heap.size w w1) (ho : w1.ownsRow w.heap.size 9 1 v2 want2.length (want2.map .string)) : WlRow w0 w1 b D L lb v recs torn v2 want2 := by
  refine ⟨h.up hb, ownsRow_base ho h.bel.size, fun q hq hf => ?_⟩
  have := (ownsRow_lt ho hq).1
  have := h.bothLt q hf
  omega

theorem addRow (s : ByteArray) (h : WlRow w0 w b D L lb v recs false vw want) (hl : LogSt D l files i o t) (hs : s.size ≤ 5000) (hls : l.size ≤ 890000) (hn : recs.length < 200) (hf : files.length ≤ 400000) :
    Calls Try.prog 45 #[.pointer (some ⟨lb, 0, none⟩), .string s] w fun e w' => e = .returned (.int .i64 0) ∧ ∃ D' L' v' f', WlRow w0 w' b D' L' lb v' (recs ++ [s]) false vw want ∧ LogSt D' (l ++ frame s) f' i o t ∧ f'.length = files.length := by
  obtain ⟨D', f, he, hl', hlen⟩ := hl.add s (by omega)
  have hfl : D.files.length = files.length := by rw [hl.eq]; rfl
  refine (add_any b D L lb v recs s w h.up.both hs hn ⟨by omega, by rw [hl.eq]; exact Nat.zero_le _⟩).mono fun e w' ⟨h1, h2⟩ => ⟨by rw [h1, he], ?_⟩
  unfold AddPost at h2
  rw [he, if_pos rfl] at h2
  obtain ⟨L', v', hu⟩ := h.post h2
  refine ⟨D', L', v', f, hu, hl', ?_⟩
  have : D'.files.length = f.length := by rw [hl'.eq]; rfl
  omega
theorem resetRow (h : WlRow w0 w b D L lb v recs torn vw want) (hl : LogSt D l files i o t) (hls : l.size ≤ 890000) (hf : files.length ≤ 400000) :
    Calls Try.prog 44 #[.pointer (some ⟨lb, 0, none⟩)] w fun e w' => e = .returned (.int .i64 0) ∧ ∃ D' L' v' f' i', WlRow w0 w' b D' L' lb v' [] false vw want ∧ LogSt D' ⟨#[]⟩ f' i' o none ∧ f'.length = files.length + 1 := by
  obtain ⟨he, hl'⟩ := hl.replace [] (by show l.size + 0 ≤ _; omega)
  have hfl : D.files.length = files.length := by rw [hl.eq]; rfl
  refine (reset_any b D L lb v recs torn w h.up.both ⟨by omega, by rw [hl.eq]; exact Nat.zero_le _⟩).mono fun e w' ⟨h1, h2⟩ => ⟨by rw [h1, he], ?_⟩
  unfold ResetPost at h2
  rw [he, if_pos rfl, if_pos rfl] at h2
  obtain ⟨L', v', hu⟩ := h.post h2
  exact ⟨_, L', v', _, _, hu, hl', by simp⟩
/-- the log opened anew: another object, the same records -/
theorem openRow (h : WlRow w0 w b D L lb v recs torn vw want) (hl : LogSt D l files i o t) :
    Calls Try.prog 47 #[.pointer (some ⟨b, 0, none⟩)] w fun e w' => ∃ lb2 v2, e = .returned (.tuple #[.pointer (some ⟨lb2, 0, none⟩), .int .i64 0]) ∧
      WlRow w0 w' b D L lb2 v2 (parse l).1 (decide ((parse l).2 < l.size)) vw want ∧ Below w.heap.size w w' := by
  have hr := hl.read.1
  refine (open_any b D L w h.up.both.dk (by rw [hr])).mono fun e w' ⟨lb2, v2, he, h1, h2, h3⟩ => ?_
  rw [hr] at h1
  refine ⟨lb2, v2, he, ⟨⟨⟨h.up.both.dk.below h2, h1, fun k hk hf => ?_⟩, h.up.bel.trans (h2.mono h.up.bel.size), fun k hk => ?_⟩, ownsRow_keep h.row (fun q hq => h2.block q (ownsRow_lt h.row hq).2), fun q hq hf => ?_⟩, h2⟩
  · have := h3 k hk
    have := h.up.both.dk.flt k hf
    omega
  · rcases hk with hk | hk
    · exact h.up.new k (Or.inl hk)
    · have := h3 k hk
      have := h.up.bel.size
      omega
  · rcases hf with hf | hf
    · exact h.off q hq (Or.inl hf)
    · have := h3 q hf
      have := (ownsRow_lt h.row hq).2
      omega
theorem same15Row (h : WlRow w0 w b D L lb v recs torn vw want) (hn : recs.length ≤ 1000000) (hn2 : want.length ≤ 1000000) :
    Calls Try.prog 43 #[.pointer (some ⟨lb, 0, none⟩), vw] w fun e w' => e = .returned (.bool (decide (recs = want))) ∧ Below w.heap.size w w' :=
  same15_any lb b v vw recs want torn w h.up.both.lg h.rd hn hn2
end
end Go.Proofs.Ytjdkhainlcalbaa
