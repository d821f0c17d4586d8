/- A tree's nodes: the program's reader. -/
import Derived.Test.YtaoejgnfoecpfaaDoorNd
import Derived.Test.YtaoejgnfoecpfaaDoorVc
namespace Go.Proofs.YtaoejgnfoecpfaaDoor
open Go.RowKit

/-- the reader in its block -/
def RdE (w : World) (g : Nat) (s : ByteArray) (e : Nat) : Prop := Blk w g 109 #[.string s, .int .i64 e]
theorem RdE.same {w : World} {g e e' : Nat} {s s' : ByteArray} (h : RdE w g s e) (h1 : s = s') (h2 : e = e') : RdE w g s' e' := by subst h1 h2; exact h
theorem RdE.setE {w : World} {g e : Nat} {s : ByteArray} (h : RdE w g s e) (c : Nat) : RdE (w.setCell ⟨g, 1, none⟩ (.int .i64 c)) g s c := by
  have := Blk.set_ h 1 (.int .i64 c)
  simpa [RdE] using this
theorem RdE.setS {w : World} {g e : Nat} {s : ByteArray} (h : RdE w g s e) (t : ByteArray) : RdE (w.setCell ⟨g, 0, none⟩ (.string t)) g t e := by
  have := Blk.set_ h 0 (.string t)
  simpa [RdE] using this
theorem nfail_any (g e c : Nat) (s : ByteArray) (w : World) (hr : RdE w g s e) :
    Calls Tryd.prog 100 #[.pointer (some ⟨g, 0, none⟩), .int .i64 c] w fun r w' => r = .returned (.tuple #[]) ∧ RdE w' g s (failE e c) ∧ Only g w w' := by
  have h1 : w.cell? ⟨g, 1, none⟩ = some (.int .i64 e) := hr.cell 1
  have f1 : w.frozen? ⟨g, 1, none⟩ = false := hr.frozen 1
  have HR := Lib.hid hr
  clear hr
  by_cases he : e = 0
  · subst he
    have HF := Lib.hid (show c = failE 0 c from rfl)
    go_enter Tryd.func100, Tryd.ntmps100
    go_wp2
    go_end0
    exact ⟨rfl, (HR.out.setE c).same rfl HF.out, Only.set _ _ _ _⟩
  · have hq : ((e : Int) == 0) = false := by rw [beq_eq_false_iff_ne]; omega
    have HF := Lib.hid (show e = failE e c by unfold failE; rw [if_neg he])
    clear he
    go_enter Tryd.func100, Tryd.ntmps100
    go_wp2
    go_end0
    exact ⟨rfl, HR.out.same rfl HF.out, Only.refl _ _⟩
set_option maxRecDepth 100000 in
set_option maxHeartbeats 800000 in
theorem nnum_any (g : Nat) (s : ByteArray) (e : Nat) (w : World) (hr : RdE w g s e) (hs : s.size ≤ 1099511627776) :
    Calls Tryd.prog 67 #[.pointer (some ⟨g, 0, none⟩)] w fun r w' => r = .returned (.int .i64 (numE s e).1) ∧ RdE w' g (numE s e).2.1 (numE s e).2.2 ∧ Only g w w' := by
  have h0 : w.cell? ⟨g, 0, none⟩ = some (.string s) := hr.cell 0
  have h1 : w.cell? ⟨g, 1, none⟩ = some (.int .i64 e) := hr.cell 1
  have f0 : w.frozen? ⟨g, 0, none⟩ = false := hr.frozen 0
  have HR := Lib.hid hr
  by_cases he : e = 0
  · subst he
    have HFA := Lib.hid (nfail_any g 0 3 s w hr)
    have HU := Lib.hid fun W => unvar_any s W hs
    obtain ⟨l1, l2, l3⟩ := unvar_le s.data.toList
    rw [ba_len] at l1
    by_cases h : (unvarL s.data.toList).2 = 0 ∨ 1099511627776 < (unvarL s.data.toList).1
    · have HN := Lib.hid (show numE s 0 = (0, s, 3) by unfold numE; rw [if_neg (by decide), if_pos h])
      generalize (unvarL s.data.toList).1 = x at *
      generalize (unvarL s.data.toList).2 = n at *
      clear hr l3
      have hq : ((n : Int) == 0) = true ∨ (((n : Int) == 0) = false ∧ (1099511627776 : Int) < (x : Int)) := by
        by_cases h0 : n = 0
        · exact .inl (by simp; omega)
        · exact .inr ⟨by simp; omega, by omega⟩
      clear h
      rcases hq with hq | ⟨hq, hq2⟩
      all_goals
        go_enter Tryd.func67, Tryd.ntmps67
        go_wp2_with fail
        refine (HU.out w).mono ?_
        rintro e w1 ⟨rfl, rfl⟩
        go_wp2_with fail
        refine HFA.out.mono ?_
        rintro e w1 ⟨rfl, hr1, ho1⟩
        go_wp2
        go_ret
        exact ⟨ret_int (by rw [HN.out]; rfl), hr1.same (by rw [HN.out]) (by rw [HN.out]; rfl), ho1⟩
    · have HN := Lib.hid (show numE s 0 = ((unvarL s.data.toList).1, s.extract (unvarL s.data.toList).2 s.size, 0) by unfold numE; rw [if_neg (by decide), if_neg h])
      generalize (unvarL s.data.toList).1 = x at *
      generalize (unvarL s.data.toList).2 = n at *
      clear hr l3
      have hq : ((n : Int) == 0) = false := by simp; omega
      have hq2 : decide ((1099511627776 : Int) < (x : Int)) = false := decide_eq_false (by omega)
      have hx : (x : Int) ≤ 1099511627776 := by omega
      have hn1 : (n : Int) ≤ (s.size : Int) := by omega
      clear h
      go_enter Tryd.func67, Tryd.ntmps67
      go_wp2_with fail
      refine (HU.out w).mono ?_
      rintro e w1 ⟨rfl, rfl⟩
      go_wp2
      go_ret
      exact ⟨ret_int (by rw [HN.out]), (HR.out.setS _).same (by rw [HN.out]) (by rw [HN.out]), Only.set _ _ _ _⟩
  · have hq : ((e : Int) != 0) = true := by rw [bne_iff_ne]; omega
    have HN := Lib.hid (numE_bad he s)
    clear he hr
    go_enter Tryd.func67, Tryd.ntmps67
    go_wp2
    go_ret
    exact ⟨ret_int (by rw [HN.out]; rfl), HR.out.same (by rw [HN.out]) (by rw [HN.out]), Only.refl _ _⟩
set_option maxRecDepth 100000 in
set_option maxHeartbeats 800000 in
theorem ntake_any (g : Nat) (s : ByteArray) (e n : Nat) (w : World) (hr : RdE w g s e) (_hs : s.size ≤ 1099511627776) (hn : n ≤ 1099511627776) :
    Calls Tryd.prog 101 #[.pointer (some ⟨g, 0, none⟩), .int .i64 n] w fun r w' => r = .returned (.string (takE s e n).1) ∧ RdE w' g (takE s e n).2.1 (takE s e n).2.2 ∧ Only g w w' := by
  have h0 : w.cell? ⟨g, 0, none⟩ = some (.string s) := hr.cell 0
  have h1 : w.cell? ⟨g, 1, none⟩ = some (.int .i64 e) := hr.cell 1
  have f0 : w.frozen? ⟨g, 0, none⟩ = false := hr.frozen 0
  have HR := Lib.hid hr
  have HFA := Lib.hid (nfail_any g e 6 s w hr)
  clear hr
  by_cases hl : s.size < n
  · have hq : (s.size : Int) < (n : Int) := by omega
    have HN := Lib.hid (show takE s e n = (noB, s, failE e 6) by
      unfold takE failE
      by_cases he : e = 0
      · rw [if_neg (by omega), if_pos hl, if_pos he]
      · rw [if_pos he, if_neg he])
    have hne : (((failE e 6 : Nat) : Int) != 0) = true := by
      unfold failE
      rw [bne_iff_ne]
      split <;> omega
    clear hl
    go_enter Tryd.func101, Tryd.ntmps101
    go_wp2_with fail
    refine HFA.out.mono ?_
    rintro e w1 ⟨rfl, hr1, ho1⟩
    have c1 : w1.cell? ⟨g, 1, none⟩ = some (.int .i64 (failE _ 6 : Nat)) := hr1.cell 1
    have HR1 := Lib.hid hr1
    have HO1 := Lib.hid ho1
    clear hr1 ho1
    go_wp2
    go_ret
    exact ⟨ret_str (by rw [HN.out]; rfl), HR1.out.same (by rw [HN.out]) (by rw [HN.out]), HO1.out⟩
  · have hq : ¬ (s.size : Int) < (n : Int) := by omega
    by_cases he : e = 0
    · subst he
      have HN := Lib.hid (show takE s 0 n = (s.extract 0 n, s.extract n s.size, 0) by unfold takE; rw [if_neg (by decide), if_neg hl])
      clear hl
      go_enter Tryd.func101, Tryd.ntmps101
      go_wp2
      go_ret
      exact ⟨ret_str (by rw [HN.out]), (HR.out.setS _).same (by rw [HN.out]) (by rw [HN.out]), Only.set _ _ _ _⟩
    · have hne : ((e : Int) != 0) = true := by rw [bne_iff_ne]; omega
      have HN := Lib.hid (takE_bad he s n)
      clear hl he
      go_enter Tryd.func101, Tryd.ntmps101
      go_wp2
      go_ret
      exact ⟨ret_str (by rw [HN.out]; rfl), HR.out.same (by rw [HN.out]) (by rw [HN.out]), Only.refl _ _⟩
end Go.Proofs.YtaoejgnfoecpfaaDoor
