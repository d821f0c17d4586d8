/- Manifests: the program's reader. -/
import Derived.Test.YtbjompcaekbjoaaDoorMp
import Derived.Deep.Draws
import Derived.Laws.Rows
namespace Go.Proofs.YtbjompcaekbjoaaDoor
open Go.RowKit

/-- a block known whole (the kit's extra words) -/
def Blk (w : World) (g : Nat) (t : TypeId) (cs : Array Value) : Prop := w.heap[g]? = some (.cells cs t (0, 0))
section
variable {w w' : World} {g : Nat} {t : TypeId} {cs : Array Value}
theorem Blk.lt (h : Blk w g t cs) : g < w.heap.size := by
  rcases Nat.lt_or_ge g w.heap.size with hlt | hge
  · exact hlt
  · unfold Blk at h; rw [Array.getElem?_eq_none hge] at h; cases h
theorem Blk.cell (h : Blk w g t cs) (i : Nat) : w.cell? ⟨g, i, none⟩ = cs[i]? := cell_of_row w g i cs t (0, 0) h
theorem Blk.frozen (h : Blk w g t cs) (i : Nat) : w.frozen? ⟨g, i, none⟩ = false := by
  unfold Blk at h
  simp [World.frozen?, h]
theorem Blk.new (w : World) (t : TypeId) (cs : Array Value) : Blk (w.alloc (.cells cs t)) w.heap.size t cs := heap_alloc_new w _
theorem Blk.drew (h : Blk w g t cs) : Blk w.drew g t cs := h
theorem Blk.alloc (h : Blk w g t cs) (o : Obj) : Blk (w.alloc o) g t cs := (Below.heap_alloc w o g h.lt).trans h
theorem Blk.set_ (h : Blk w g t cs) (i : Nat) (u : Value) : Blk (w.setCell ⟨g, i, none⟩ u) g t (cs.setIfInBounds i u) := by
  unfold Blk at h ⊢
  simp [World.setCell, Array.getElem?_modify, h]
theorem Blk.far (h : Blk w g t cs) {p : Addr} (hp : g ≠ p.block) (u : Value) : Blk (w.setCell p u) g t cs := (Below.heap_setCell w p u g hp).trans h
theorem Blk.below {B : Nat} (h : Blk w g t cs) (hb : Below B w w') (hg : g < B) : Blk w' g t cs := (hb.block g hg).trans h
theorem Blk.grown {row : Option Nat} (h : Blk w g t cs) (hb : w.grownBy w' row) (hg : some g ≠ row) : Blk w' g t cs := (hb.block g h.lt hg).trans h
end
/-- only one block may have changed, and there are no new ones -/
structure Only (g : Nat) (w w' : World) : Prop where
  grown : w.grownBy w' (some g)
  size : w'.heap.size = w.heap.size
theorem Only.set (g i : Nat) (w : World) (u : Value) : Only g w (w.setCell ⟨g, i, none⟩ u) :=
  ⟨⟨rfl, rfl, rfl, by simp, fun k _ hk => Below.heap_setCell w _ _ k (fun e => hk (by rw [e]))⟩, by simp⟩
theorem Only.refl (g : Nat) (w : World) : Only g w w := ⟨World.grownBy.refl w _, rfl⟩
theorem Only.trans {g : Nat} {a b c : World} (h : Only g a b) (k : Only g b c) : Only g a c := ⟨h.grown.trans k.grown, k.size.trans h.size⟩
theorem Only.low {g B : Nat} {a w w' : World} (h : Only g w w') (hb : Below B a w) (hB : B ≤ w.heap.size) (hg : B ≤ g) : Below B a w' := hb.grown h.grown hB fun k hk => by cases hk; exact hg
theorem Only.far {g k : Nat} {w w' : World} {t : TypeId} {cs : Array Value} (h : Only g w w') (hb : Blk w k t cs) (hk : k ≠ g) : Blk w' k t cs := hb.grown h.grown (by simpa using hk)
/-- the reader in its block -/
def Rd (w : World) (g : Nat) (s : ByteArray) (b : Bool) : Prop := Blk w g 78 #[.string s, .bool b]

set_option maxRecDepth 100000 in
set_option maxHeartbeats 800000 in
theorem mnum_any (g : Nat) (s : ByteArray) (b : Bool) (w : World) (hr : Rd w g s b) (hs : s.size ≤ 1099511627776) :
    Calls Tryd.prog 62 #[.pointer (some ⟨g, 0, none⟩)] w fun e w' => e = .returned (.int .i64 (numS s b).1) ∧ Rd w' g (numS s b).2.1 (numS s b).2.2 ∧ Only g w w' := by
  have h0 : w.cell? ⟨g, 0, none⟩ = some (.string s) := hr.cell 0
  have h1 : w.cell? ⟨g, 1, none⟩ = some (.bool b) := hr.cell 1
  have f0 := hr.frozen 0
  have f1 := hr.frozen 1
  have HR := Lib.hid hr
  have HU := Lib.hid fun W => unvar_any s W hs
  obtain ⟨l1, l2, l3⟩ := unvar_le s.data.toList
  rw [ba_len] at l1
  by_cases h : (unvarL s.data.toList).2 = 0 ∨ 1099511627776 < (unvarL s.data.toList).1
  · have HN := Lib.hid (show numS s b = (0, s, true) from if_pos h)
    generalize (unvarL s.data.toList).1 = x at *
    generalize (unvarL s.data.toList).2 = n at *
    clear hr l3
    have hq : ((n : Int) == 0) = true ∨ (((n : Int) == 0) = false ∧ (1099511627776 : Int) < (x : Int)) := by
      by_cases h0 : n = 0
      · exact .inl (by simp; omega)
      · exact .inr ⟨by simp; omega, by omega⟩
    clear h
    rcases hq with hq | ⟨hq, hq2⟩
    all_goals
      go_enter Tryd.func62, Tryd.ntmps62
      go_wp2_with fail
      refine (HU.out w).mono ?_
      rintro e w1 ⟨rfl, rfl⟩
      go_wp2
      go_ret
      exact ⟨ret_int (by rw [HN.out]; rfl), by rw [HN.out]; exact HR.out.set_ 1 (.bool true), Only.set _ _ _ _⟩
  · have HN := Lib.hid (show numS s b = ((unvarL s.data.toList).1, s.extract (unvarL s.data.toList).2 s.size, b) from if_neg h)
    generalize (unvarL s.data.toList).1 = x at *
    generalize (unvarL s.data.toList).2 = n at *
    clear hr l3
    have hq : ((n : Int) == 0) = false := by simp; omega
    have hq2 : decide ((1099511627776 : Int) < (x : Int)) = false := decide_eq_false (by omega)
    have hx : (x : Int) ≤ 1099511627776 := by omega
    have hn1 : (n : Int) ≤ (s.size : Int) := by omega
    clear h
    go_enter Tryd.func62, Tryd.ntmps62
    go_wp2_with fail
    refine (HU.out w).mono ?_
    rintro e w1 ⟨rfl, rfl⟩
    go_wp2
    go_ret
    exact ⟨ret_int (by rw [HN.out]), by rw [HN.out]; exact HR.out.set_ 0 _, Only.set _ _ _ _⟩
set_option maxRecDepth 100000 in
set_option maxHeartbeats 800000 in
theorem mtake_any (g : Nat) (s : ByteArray) (b : Bool) (n : Nat) (w : World) (hr : Rd w g s b) (_hs : s.size ≤ 1099511627776) (hn : n ≤ 1099511627776) :
    Calls Tryd.prog 63 #[.pointer (some ⟨g, 0, none⟩), .int .i64 n] w fun e w' => e = .returned (.string (takS s b n).1) ∧ Rd w' g (takS s b n).2.1 (takS s b n).2.2 ∧ Only g w w' := by
  have h0 : w.cell? ⟨g, 0, none⟩ = some (.string s) := hr.cell 0
  have h1 : w.cell? ⟨g, 1, none⟩ = some (.bool b) := hr.cell 1
  have f0 := hr.frozen 0
  have f1 := hr.frozen 1
  have HR := Lib.hid hr
  by_cases h : s.size < n
  · have HN := Lib.hid (show takS s b n = (⟨#[]⟩, s, true) from if_pos h)
    have hq : (s.size : Int) < (n : Int) := by omega
    clear hr h
    go_enter Tryd.func63, Tryd.ntmps63
    go_wp2
    go_ret
    exact ⟨ret_str (by rw [HN.out]), by rw [HN.out]; exact HR.out.set_ 1 (.bool true), Only.set _ _ _ _⟩
  · have HN := Lib.hid (show takS s b n = (s.extract 0 n, s.extract n s.size, b) from if_neg h)
    have hq : ¬ (s.size : Int) < (n : Int) := by omega
    clear hr h
    go_enter Tryd.func63, Tryd.ntmps63
    go_wp2
    go_ret
    exact ⟨ret_str (by rw [HN.out]), by rw [HN.out]; exact HR.out.set_ 0 _, Only.set _ _ _ _⟩
end Go.Proofs.YtbjompcaekbjoaaDoor
