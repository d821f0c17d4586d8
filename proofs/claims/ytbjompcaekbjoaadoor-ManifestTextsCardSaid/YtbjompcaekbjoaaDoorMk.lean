/- Manifests: reading, the document's: the plain law. -/
import Derived.Test.YtbjompcaekbjoaaDoorMj
namespace Go.Proofs.YtbjompcaekbjoaaDoor
open Go.RowKit

theorem pre_iff (s : ByteArray) : Lib.hasPrefix s.data.toList snapL = ((s.extract 0 4).toList == [115, 110, 97, 112]) := by
  rw [Bool.eq_iff_iff, beq_iff_eq, ba_toList, ext_take]
  unfold Lib.hasPrefix
  rw [List.isPrefixOf_iff_prefix, List.prefix_iff_eq_take]
  exact eq_comm
theorem pre_short (s : ByteArray) (h : s.size < 4) : Lib.hasPrefix s.data.toList snapL = false := by
  unfold Lib.hasPrefix
  rw [Bool.eq_false_iff]
  intro e
  have := List.IsPrefix.length_le (List.isPrefixOf_iff_prefix.1 e)
  rw [ba_len] at this
  simp [snapL] at this
  omega
theorem redS_bad (s : ByteArray) : (redS s true).bad = true := by
  unfold redS
  simp only [numS_bad, takS_bad, loopS_bad]
theorem decS_nopre {s : ByteArray} (h : Lib.hasPrefix s.data.toList snapL = false) : decS s = (noMan, 3) := by
  unfold decS
  rw [h]
  exact if_pos (Or.inl (redS_bad _))
theorem decS_pre {s : ByteArray} (h : Lib.hasPrefix s.data.toList snapL = true) : decS s = (if (redS (s.extract 4 s.size) false).bad = true ∨ (redS (s.extract 4 s.size) false).s.size ≠ 0 then (noMan, 3) else if goodM (redS (s.extract 4 s.size) false).m = true then ((redS (s.extract 4 s.size) false).m, 0) else (noMan, 4)) := by
  have e : (⟨(Lib.trimPrefix s.data.toList snapL).toArray⟩ : ByteArray) = s.extract 4 s.size := by
    apply ba_inj
    rw [ext_drop]
    unfold Lib.trimPrefix
    rw [if_pos h]
    rfl
  unfold decS
  rw [e, h]
  rfl
theorem loopS_sizes : ∀ (n : Nat) (s : ByteArray), (loopS n s false).2.2 = false → 32 * n + (loopS n s false).2.1.size = s.size
  | 0, s, _ => by simp [loopS]
  | n + 1, s, h => by
    simp only [loopS, Bool.false_eq_true, if_false] at h ⊢
    by_cases hs : s.size < 32
    · have ht : takS s false 32 = (⟨#[]⟩, s, true) := if_pos hs
      rw [ht, loopS_bad] at h
      cases h
    · have ht : takS s false 32 = (s.extract 0 32, s.extract 32 s.size, false) := if_neg hs
      rw [ht] at h ⊢
      have h5 := loopS_sizes n _ h
      have h6 : (s.extract 32 s.size).size = s.size - 32 := by simp only [ByteArray.size_extract]; omega
      simp only at h5 ⊢
      omega
theorem loopS_full : ∀ (n : Nat) (s : ByteArray), s.size = 32 * n → (loopS n s false).2.2 = false
  | 0, s, _ => rfl
  | n + 1, s, h => by
    have ht : takS s false 32 = (s.extract 0 32, s.extract 32 s.size, false) := if_neg (by omega)
    simp only [loopS, Bool.false_eq_true, if_false, ht]
    exact loopS_full n _ (by simp only [ByteArray.size_extract]; omega)
theorem dec_out {s : ByteArray} {w W : World} {e : Int} (hX : decS s = (noMan, e)) (hb : Below w.heap.size w W) : DecPost s w (.returned (.tuple #[.agg #[.int .i64 0, .string ⟨#[]⟩, .string ⟨#[]⟩, .int .i64 0, .slice none 0 0], .int .i64 e])) W :=
  ⟨none, 0, by rw [hX]; rfl, by rw [hX]; exact fun h => absurd h (by simp [noMan]), hb, by rw [hX]; simp [noMan], by rw [hX]; simp [noMan]⟩
theorem below5 {w W : World} (h : Below w.heap.size w W) (a b c d e : Value) : Below w.heap.size w (((((W.setCell ⟨w.heap.size, 0, none⟩ a).setCell ⟨w.heap.size, 1, none⟩ b).setCell ⟨w.heap.size, 2, none⟩ c).setCell ⟨w.heap.size, 3, none⟩ d).setCell ⟨w.heap.size, 4, none⟩ e) :=
  ((((h.setCell (p := ⟨w.heap.size, 0, none⟩) (Nat.le_refl _) _).setCell (p := ⟨w.heap.size, 1, none⟩) (Nat.le_refl _) _).setCell (p := ⟨w.heap.size, 2, none⟩) (Nat.le_refl _) _).setCell (p := ⟨w.heap.size, 3, none⟩) (Nat.le_refl _) _).setCell (p := ⟨w.heap.size, 4, none⟩) (Nat.le_refl _) _
/-- the block of the result, before anything is stored; the manifest's, while it is read -/
def RB (w W : World) (a b c d : Value) : Prop := Blk W w.heap.size 30 #[.int .i64 0, .string ⟨#[]⟩, .string ⟨#[]⟩, .int .i64 0, .slice none 0 0] ∧ Blk W (w.heap.size + 1) 30 #[a, b, c, d, .slice none 0 0] ∧ Below w.heap.size w W ∧ w.heap.size + 2 ≤ W.heap.size
theorem RB.low {w W W' : World} {a b c d : Value} (h : RB w W a b c d) (hb : Below W.heap.size W W') : RB w W' a b c d := by
  obtain ⟨h1, h2, h3, h4⟩ := h
  exact ⟨h1.below hb (by omega), h2.below hb (by omega), h3.trans (hb.mono h3.size), Nat.le_trans h4 hb.size⟩
theorem RB.drew {w W : World} {a b c d : Value} (h : RB w W a b c d) (n : Nat) : RB w (W.drewN n) a b c d := h.low (below_drewN (Below.refl _ _) _)
theorem RB.set_ {w W : World} {cs : Array Value} (h1 : Blk W w.heap.size 30 #[.int .i64 0, .string ⟨#[]⟩, .string ⟨#[]⟩, .int .i64 0, .slice none 0 0]) (h2 : Blk W (w.heap.size + 1) 30 cs) (h3 : Below w.heap.size w W) (h4 : w.heap.size + 2 ≤ W.heap.size) (i : Nat) (u : Value) {a b c d : Value} (e : cs.setIfInBounds i u = #[a, b, c, d, .slice none 0 0]) :
    RB w (W.setCell ⟨w.heap.size + 1, i, none⟩ u) a b c d := by
  refine ⟨h1.far (by simp) _, ?_, h3.setCell (by simp) _, by rw [World.size_setCell]; exact h4⟩
  rw [← e]
  exact h2.set_ i u
section
variable {s0 s1 s2 s3 s4 s5 t u : ByteArray} {x z n : Nat}
theorem red1 (h : numS s0 false = (x, s1, true)) : (redS s0 false).bad = true := by
  unfold redS
  simp only [h, numS_bad, takS_bad, loopS_bad]
theorem red2 (h1 : numS s0 false = (x, s1, false)) (h2 : txO s1 = (t, s2, true)) : (redS s0 false).bad = true := by
  have h2 : takS (numS s1 false).2.1 (numS s1 false).2.2 (numS s1 false).1 = (t, s2, true) := h2
  unfold redS
  simp only [h1, h2, numS_bad, takS_bad, loopS_bad]
theorem red3 (h1 : numS s0 false = (x, s1, false)) (h2 : txO s1 = (t, s2, false)) (h3 : txO s2 = (u, s3, true)) : (redS s0 false).bad = true := by
  have h2 : takS (numS s1 false).2.1 (numS s1 false).2.2 (numS s1 false).1 = (t, s2, false) := h2
  have h3 : takS (numS s2 false).2.1 (numS s2 false).2.2 (numS s2 false).1 = (u, s3, true) := h3
  unfold redS
  simp only [h1, h2, h3, numS_bad, loopS_bad]
theorem red4 (h1 : numS s0 false = (x, s1, false)) (h2 : txO s1 = (t, s2, false)) (h3 : txO s2 = (u, s3, false)) (h4 : numS s3 false = (z, s4, true)) : (redS s0 false).bad = true := by
  have h2 : takS (numS s1 false).2.1 (numS s1 false).2.2 (numS s1 false).1 = (t, s2, false) := h2
  have h3 : takS (numS s2 false).2.1 (numS s2 false).2.2 (numS s2 false).1 = (u, s3, false) := h3
  unfold redS
  simp only [h1, h2, h3, h4, numS_bad, loopS_bad]
theorem red5 (h1 : numS s0 false = (x, s1, false)) (h2 : txO s1 = (t, s2, false)) (h3 : txO s2 = (u, s3, false)) (h4 : numS s3 false = (z, s4, false)) (h5 : numS s4 false = (n, s5, true)) : (redS s0 false).bad = true := by
  have h2 : takS (numS s1 false).2.1 (numS s1 false).2.2 (numS s1 false).1 = (t, s2, false) := h2
  have h3 : takS (numS s2 false).2.1 (numS s2 false).2.2 (numS s2 false).1 = (u, s3, false) := h3
  unfold redS
  simp only [h1, h2, h3, h4, h5, loopS_bad]
theorem red6 (h1 : numS s0 false = (x, s1, false)) (h2 : txO s1 = (t, s2, false)) (h3 : txO s2 = (u, s3, false)) (h4 : numS s3 false = (z, s4, false)) (h5 : numS s4 false = (n, s5, false)) :
    redS s0 false = ⟨⟨x, t, u, z, (loopS n s5 false).1⟩, (loopS n s5 false).2.1, (loopS n s5 false).2.2⟩ := by
  have h2 : takS (numS s1 false).2.1 (numS s1 false).2.2 (numS s1 false).1 = (t, s2, false) := h2
  have h3 : takS (numS s2 false).2.1 (numS s2 false).2.2 (numS s2 false).1 = (u, s3, false) := h3
  unfold redS
  simp only [h1, h2, h3, h4, h5]
theorem tk_ok (h : numS s0 false = (x, s1, false)) : tkR s0 = (x, s1, true) := by unfold tkR; rw [h]; rfl
theorem tk_no (h : numS s0 false = (x, s1, true)) : tkR s0 = (0, ⟨#[]⟩, false) := by unfold tkR; rw [h]; rfl
theorem tx_ok (h : txO s0 = (t, s1, false)) : txR s0 = (t, s1, true) := by unfold txR; rw [h]; rfl
theorem tx_no (h : txO s0 = (t, s1, true)) : txR s0 = (⟨#[]⟩, ⟨#[]⟩, false) := by unfold txR; rw [h]; rfl
theorem tx_le (s : ByteArray) : (txO s).1.size ≤ s.size ∧ (txO s).2.1.size ≤ s.size := by
  have h1 := (numS_le s false).2
  have h2 := takS_le (numS s false).2.1 (numS s false).2.2 (numS s false).1
  exact ⟨Nat.le_trans h2.1 h1, Nat.le_trans h2.2 h1⟩
end
end Go.Proofs.YtbjompcaekbjoaaDoor
