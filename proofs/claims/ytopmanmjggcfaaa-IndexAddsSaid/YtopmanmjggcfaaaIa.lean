/- The index: readers' number and text (printed by wip/gen/mkira.py). -/
import Derived.Test.YtopmanmjggcfaaaIq
import Derived.Test.YtopmanmjggcfaaaBk
import Derived.Test.YtopmanmjggcfaaaVc
namespace Go.Proofs.Ytopmanmjggcfaaa
open Go.RowKit

theorem gb_of {w w1 : World} (h : Below w.heap.size w w1) (row : Option Nat) : w.grownBy w1 row := ⟨h.os, h.tape, h.output, h.size, fun k hk _ => h.block k hk⟩
/-- the reader in its block -/
def Rd (w : World) (t : TypeId) (g : Nat) (s : ByteArray) (b : Bool) : Prop := Blk w g t #[.string s, .bool b]

set_option maxRecDepth 100000 in
set_option maxHeartbeats 800000 in
theorem inum_any (g : Nat) (s : ByteArray) (b : Bool) (w : World) (hr : Rd w 75 g s b) (hs : s.size ≤ 1099511627776) :
    Calls Try.prog 29 #[.pointer (some ⟨g, 0, none⟩)] w fun e w' => e = .returned (.int .i64 (numI s b).1) ∧ Rd w' 75 g (numI s b).2.1 (numI s b).2.2 ∧ w.grownBy w' (some g) := by
  have h0 : w.cell? ⟨g, 0, none⟩ = some (.string s) := hr.cell 0
  have h1 : w.cell? ⟨g, 1, none⟩ = some (.bool b) := hr.cell 1
  have f0 := hr.frozen 0
  have f1 := hr.frozen 1
  have HR := Lib.hid hr
  have HU := Lib.hid fun W => unvar_any s W hs
  obtain ⟨l1, l2, l3⟩ := unvar_le s.data.toList
  rw [ba_len] at l1
  by_cases h : (unvarL s.data.toList).2 = 0 ∨ 4294967295 < (unvarL s.data.toList).1
  · have HN := Lib.hid (show numI s b = (0, s, true) from if_pos h)
    generalize (unvarL s.data.toList).1 = x at *
    generalize (unvarL s.data.toList).2 = n at *
    clear hr l3
    have hq : ((n : Int) == 0) = true ∨ (((n : Int) == 0) = false ∧ (4294967296 : Int) ≤ (x : Int)) := by
      by_cases h0 : n = 0
      · exact .inl (by simp; omega)
      · exact .inr ⟨by simp; omega, by omega⟩
    clear h
    rcases hq with hq | ⟨hq, hq2⟩
    all_goals
      go_enter Try.func29, Try.ntmps29
      go_wp2_with fail
      refine (HU.out w).mono ?_
      rintro e w1 ⟨rfl, rfl⟩

      go_wp2
      go_ret
      exact ⟨ret_int (by rw [HN.out]; rfl), by rw [HN.out]; exact HR.out.set_ 1 (.bool true), (Only.set _ _ _ _).grown⟩
  · have HN := Lib.hid (show numI s b = ((unvarL s.data.toList).1, s.extract (unvarL s.data.toList).2 s.size, b) from if_neg h)
    generalize (unvarL s.data.toList).1 = x at *
    generalize (unvarL s.data.toList).2 = n at *
    clear hr l3
    have hq : ((n : Int) == 0) = false := by simp; omega
    have hq2 : decide ((4294967296 : Int) ≤ (x : Int)) = false := decide_eq_false (by omega)
    have hx : (x : Int) ≤ 4294967295 := by omega
    have hn1 : (n : Int) ≤ (s.size : Int) := by omega
    clear h
    go_enter Try.func29, Try.ntmps29
    go_wp2_with fail
    refine (HU.out w).mono ?_
    rintro e w1 ⟨rfl, rfl⟩

    go_wp2
    go_ret
    exact ⟨ret_int (by rw [HN.out]), by rw [HN.out]; exact HR.out.set_ 0 _, (Only.set _ _ _ _).grown⟩
set_option maxRecDepth 100000 in
set_option maxHeartbeats 800000 in
theorem itext_any (g : Nat) (s : ByteArray) (b : Bool) (w : World) (hr : Rd w 75 g s b) (hs : s.size ≤ 1099511627776) :
    Calls Try.prog 30 #[.pointer (some ⟨g, 0, none⟩)] w fun e w' => e = .returned (.string (txI s b).1) ∧ Rd w' 75 g (txI s b).2.1 (txI s b).2.2 ∧ w.grownBy w' (some g) := by
  have HU := Lib.hid (inum_any g s b w hr hs)
  have z := numI_le s b
  have HT := Lib.hid (show txI s b = takS (numI s b).2.1 (numI s b).2.2 (numI s b).1 from rfl)
  generalize numI s b = r at *
  obtain ⟨x, s1, b1⟩ := r
  simp only at HU HT z
  obtain ⟨z1, z2⟩ := z
  clear hr
  go_enter Try.func30, Try.ntmps30
  go_wp2_with fail
  refine HU.out.mono ?_
  rintro e w1 ⟨rfl, hr, hg⟩
  have h0 : w1.cell? ⟨g, 0, none⟩ = some (.string s1) := hr.cell 0
  have h1 : w1.cell? ⟨g, 1, none⟩ = some (.bool b1) := hr.cell 1
  have f0 := hr.frozen 0
  have f1 := hr.frozen 1
  have HR := Lib.hid hr
  have HG := Lib.hid hg
  clear hr hg
  by_cases hx : s1.size < x
  · have HN := Lib.hid (HT.out.trans (show takS s1 b1 x = (⟨#[]⟩, s1, true) from if_pos hx))
    have hq : (s1.size : Int) < (x : Int) := by omega
    clear hx
    go_wp2
    go_ret
    exact ⟨ret_str (by rw [HN.out]), by rw [HN.out]; exact HR.out.set_ 1 (.bool true), HG.out.trans (Only.set _ _ _ _).grown⟩
  · have HN := Lib.hid (HT.out.trans (show takS s1 b1 x = (s1.extract 0 x, s1.extract x s1.size, b1) from if_neg hx))
    have hq : ¬ (s1.size : Int) < (x : Int) := by omega
    have hq2 : (x : Int) ≤ (s1.size : Int) := by omega
    clear hx
    go_wp2
    go_ret
    exact ⟨ret_str (by rw [HN.out]), by rw [HN.out]; exact HR.out.set_ 0 _, HG.out.trans (Only.set _ _ _ _).grown⟩

set_option maxRecDepth 100000 in
set_option maxHeartbeats 800000 in
theorem rnum_any (g : Nat) (s : ByteArray) (b : Bool) (w : World) (hr : Rd w 79 g s b) (hs : s.size ≤ 1099511627776) :
    Calls Try.prog 32 #[.pointer (some ⟨g, 0, none⟩)] w fun e w' => e = .returned (.int .i64 (numI s b).1) ∧ Rd w' 79 g (numI s b).2.1 (numI s b).2.2 ∧ w.grownBy w' (some g) := by
  have h0 : w.cell? ⟨g, 0, none⟩ = some (.string s) := hr.cell 0
  have h1 : w.cell? ⟨g, 1, none⟩ = some (.bool b) := hr.cell 1
  have f0 := hr.frozen 0
  have f1 := hr.frozen 1
  have HR := Lib.hid hr
  have HU := Lib.hid fun W => refunvar_any s W hs
  obtain ⟨l1, l2, l3⟩ := unvar_le s.data.toList
  rw [ba_len] at l1
  by_cases h : (unvarL s.data.toList).2 = 0 ∨ 4294967295 < (unvarL s.data.toList).1
  · have HN := Lib.hid (show numI s b = (0, s, true) from if_pos h)
    generalize (unvarL s.data.toList).1 = x at *
    generalize (unvarL s.data.toList).2 = n at *
    clear hr l3
    have hq : ((n : Int) == 0) = true ∨ (((n : Int) == 0) = false ∧ (4294967295 : Int) < (x : Int)) := by
      by_cases h0 : n = 0
      · exact .inl (by simp; omega)
      · exact .inr ⟨by simp; omega, by omega⟩
    clear h
    rcases hq with hq | ⟨hq, hq2⟩
    all_goals
      go_enter Try.func32, Try.ntmps32
      go_wp2_with fail
      refine (HU.out w).mono ?_
      rintro e w1 ⟨rfl, hb⟩
      have HR1 := Lib.hid (HR.out.below hb HR.out.lt)
      have c0 : w1.cell? ⟨g, 0, none⟩ = some (.string s) := HR1.out.cell 0
      have c1 : w1.cell? ⟨g, 1, none⟩ = some (.bool b) := HR1.out.cell 1
      have k0 := HR1.out.frozen 0
      have k1 := HR1.out.frozen 1
      have HB := Lib.hid hb
      clear hb
      go_wp2
      go_ret
      exact ⟨ret_int (by rw [HN.out]; rfl), by rw [HN.out]; exact HR1.out.set_ 1 (.bool true), ((gb_of HB.out _).trans (Only.set _ _ _ _).grown)⟩
  · have HN := Lib.hid (show numI s b = ((unvarL s.data.toList).1, s.extract (unvarL s.data.toList).2 s.size, b) from if_neg h)
    generalize (unvarL s.data.toList).1 = x at *
    generalize (unvarL s.data.toList).2 = n at *
    clear hr l3
    have hq : ((n : Int) == 0) = false := by simp; omega
    have hq2 : decide ((4294967295 : Int) < (x : Int)) = false := decide_eq_false (by omega)
    have hx : (x : Int) ≤ 4294967295 := by omega
    have hn1 : (n : Int) ≤ (s.size : Int) := by omega
    clear h
    go_enter Try.func32, Try.ntmps32
    go_wp2_with fail
    refine (HU.out w).mono ?_
    rintro e w1 ⟨rfl, hb⟩
    have HR1 := Lib.hid (HR.out.below hb HR.out.lt)
    have c0 : w1.cell? ⟨g, 0, none⟩ = some (.string s) := HR1.out.cell 0
    have c1 : w1.cell? ⟨g, 1, none⟩ = some (.bool b) := HR1.out.cell 1
    have k0 := HR1.out.frozen 0
    have k1 := HR1.out.frozen 1
    have HB := Lib.hid hb
    clear hb
    go_wp2
    go_ret
    exact ⟨ret_int (by rw [HN.out]), by rw [HN.out]; exact HR1.out.set_ 0 _, ((gb_of HB.out _).trans (Only.set _ _ _ _).grown)⟩
set_option maxRecDepth 100000 in
set_option maxHeartbeats 800000 in
theorem rtext_any (g : Nat) (s : ByteArray) (b : Bool) (w : World) (hr : Rd w 79 g s b) (hs : s.size ≤ 1099511627776) :
    Calls Try.prog 33 #[.pointer (some ⟨g, 0, none⟩)] w fun e w' => e = .returned (.string (txI s b).1) ∧ Rd w' 79 g (txI s b).2.1 (txI s b).2.2 ∧ w.grownBy w' (some g) := by
  have HU := Lib.hid (rnum_any g s b w hr hs)
  have z := numI_le s b
  have HT := Lib.hid (show txI s b = takS (numI s b).2.1 (numI s b).2.2 (numI s b).1 from rfl)
  generalize numI s b = r at *
  obtain ⟨x, s1, b1⟩ := r
  simp only at HU HT z
  obtain ⟨z1, z2⟩ := z
  clear hr
  go_enter Try.func33, Try.ntmps33
  go_wp2_with fail
  refine HU.out.mono ?_
  rintro e w1 ⟨rfl, hr, hg⟩
  have h0 : w1.cell? ⟨g, 0, none⟩ = some (.string s1) := hr.cell 0
  have h1 : w1.cell? ⟨g, 1, none⟩ = some (.bool b1) := hr.cell 1
  have f0 := hr.frozen 0
  have f1 := hr.frozen 1
  have HR := Lib.hid hr
  have HG := Lib.hid hg
  clear hr hg
  by_cases hx : s1.size < x
  · have HN := Lib.hid (HT.out.trans (show takS s1 b1 x = (⟨#[]⟩, s1, true) from if_pos hx))
    have hq : (s1.size : Int) < (x : Int) := by omega
    clear hx
    go_wp2
    go_ret
    exact ⟨ret_str (by rw [HN.out]), by rw [HN.out]; exact HR.out.set_ 1 (.bool true), HG.out.trans (Only.set _ _ _ _).grown⟩
  · have HN := Lib.hid (HT.out.trans (show takS s1 b1 x = (s1.extract 0 x, s1.extract x s1.size, b1) from if_neg hx))
    have hq : ¬ (s1.size : Int) < (x : Int) := by omega
    have hq2 : (x : Int) ≤ (s1.size : Int) := by omega
    clear hx
    go_wp2
    go_ret
    exact ⟨ret_str (by rw [HN.out]), by rw [HN.out]; exact HR.out.set_ 0 _, HG.out.trans (Only.set _ _ _ _).grown⟩

end Go.Proofs.Ytopmanmjggcfaaa
