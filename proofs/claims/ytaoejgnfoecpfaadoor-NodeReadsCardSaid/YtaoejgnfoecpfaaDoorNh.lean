/- A tree's nodes: the document's cursor, Target and fit. -/
import Derived.Test.YtaoejgnfoecpfaaDoorNg
namespace Go.Proofs.YtaoejgnfoecpfaaDoor
open Go.RowKit

/-- the document's cursor in its block -/
def RdC (w : World) (g : Nat) (s : ByteArray) (e : Nat) : Prop := Blk w g 117 #[.string s, .int .i64 e]
theorem RdC.same {w : World} {g e e' : Nat} {s s' : ByteArray} (h : RdC w g s e) (h1 : s = s') (h2 : e = e') : RdC w g s' e' := by subst h1 h2; exact h
theorem RdC.setE {w : World} {g e : Nat} {s : ByteArray} (h : RdC w g s e) (c : Nat) : RdC (w.setCell ⟨g, 1, none⟩ (.int .i64 c)) g s c := by
  have := Blk.set_ h 1 (.int .i64 c)
  simpa [RdC] using this
theorem RdC.setS {w : World} {g e : Nat} {s : ByteArray} (h : RdC w g s e) (t : ByteArray) : RdC (w.setCell ⟨g, 0, none⟩ (.string t)) g t e := by
  have := Blk.set_ h 0 (.string t)
  simpa [RdC] using this
theorem GoR.set {g i : Nat} {w w' : World} (h : GoR g w w') (u : Value) : GoR g w (w'.setCell ⟨g, i, none⟩ u) := h.next (Touch.setc w' g i u)
set_option maxRecDepth 100000 in
set_option maxHeartbeats 800000 in
theorem cnum_any (g : Nat) (s : ByteArray) (e : Nat) (w : World) (hr : RdC w g s e) (hs : s.size ≤ 1099511627776) :
    Calls Tryd.prog 73 #[.pointer (some ⟨g, 0, none⟩)] w fun r w' => r = .returned (.int .i64 (numE s e).1) ∧ RdC w' g (numE s e).2.1 (numE s e).2.2 ∧ GoR g w w' := by
  have h0 : w.cell? ⟨g, 0, none⟩ = some (.string s) := hr.cell 0
  have h1 : w.cell? ⟨g, 1, none⟩ = some (.int .i64 e) := hr.cell 1
  have HR := Lib.hid hr
  by_cases he : e = 0
  · subst he
    have HU := Lib.hid fun W => refunvar_any s W hs
    obtain ⟨l1, l2, l3⟩ := unvar_le s.data.toList
    rw [ba_len] at l1
    by_cases h : (unvarL s.data.toList).2 = 0 ∨ 1099511627776 < (unvarL s.data.toList).1
    · have HN := Lib.hid (show numE s 0 = (0, s, 3) by unfold numE; rw [if_neg (by decide), if_pos h])
      generalize (unvarL s.data.toList).1 = x at *
      generalize (unvarL s.data.toList).2 = n at *
      clear hr l3
      have hq : ((n : Int) == 0) = true ∨ (((n : Int) == 0) = false ∧ (1099511627776 : Int) < (x : Int)) := by
        by_cases h0 : n = 0
        · exact .inl (by simp; omega)
        · exact .inr ⟨by simp; omega, by omega⟩
      clear h
      rcases hq with hq | ⟨hq, hq2⟩
      all_goals
        go_enter Tryd.func73, Tryd.ntmps73
        go_wp2_with fail
        refine (HU.out w).mono ?_
        rintro e w1 ⟨rfl, hb1⟩
        have hr1 : RdC w1 g s 0 := Blk.below HR.out hb1 (Blk.lt HR.out)
        have HG1 := Lib.hid (show GoR g w w1 from Touch.of_below _ hb1)
        have HR1 := Lib.hid hr1
        have c1 : w1.cell? ⟨g, 1, none⟩ = some (.int .i64 (0 : Nat)) := hr1.cell 1
        have f1 : w1.frozen? ⟨g, 1, none⟩ = false := hr1.frozen 1
        clear hr1 hb1
        go_wp2
        go_ret
        exact ⟨ret_int (by rw [HN.out]; rfl), (HR1.out.setE 3).same (by rw [HN.out]) (by rw [HN.out]), HG1.out.set _⟩
    · have HN := Lib.hid (show numE s 0 = ((unvarL s.data.toList).1, s.extract (unvarL s.data.toList).2 s.size, 0) by unfold numE; rw [if_neg (by decide), if_neg h])
      generalize (unvarL s.data.toList).1 = x at *
      generalize (unvarL s.data.toList).2 = n at *
      clear hr l3
      have hq : ((n : Int) == 0) = false := by simp; omega
      have hq2 : decide ((1099511627776 : Int) < (x : Int)) = false := decide_eq_false (by omega)
      have hx : (x : Int) ≤ 1099511627776 := by omega
      have hn1 : (n : Int) ≤ (s.size : Int) := by omega
      clear h
      go_enter Tryd.func73, Tryd.ntmps73
      go_wp2_with fail
      refine (HU.out w).mono ?_
      rintro e w1 ⟨rfl, hb1⟩
      have hr1 : RdC w1 g s 0 := Blk.below HR.out hb1 (Blk.lt HR.out)
      have HG1 := Lib.hid (show GoR g w w1 from Touch.of_below _ hb1)
      have HR1 := Lib.hid hr1
      have c0 : w1.cell? ⟨g, 0, none⟩ = some (.string s) := hr1.cell 0
      have f0 : w1.frozen? ⟨g, 0, none⟩ = false := hr1.frozen 0
      clear hr1 hb1
      go_wp2
      go_ret
      exact ⟨ret_int (by rw [HN.out]), (HR1.out.setS _).same (by rw [HN.out]) (by rw [HN.out]), HG1.out.set _⟩
  · have hq : ((e : Int) != 0) = true := by rw [bne_iff_ne]; omega
    have HN := Lib.hid (numE_bad he s)
    clear he hr
    go_enter Tryd.func73, Tryd.ntmps73
    go_wp2
    go_ret
    exact ⟨ret_int (by rw [HN.out]; rfl), HR.out.same (by rw [HN.out]) (by rw [HN.out]), Touch.refl _ _⟩
set_option maxRecDepth 100000 in
set_option maxHeartbeats 800000 in
theorem ctake_any (g : Nat) (s : ByteArray) (e n : Nat) (w : World) (hr : RdC w g s e) (_hs : s.size ≤ 1099511627776) (hn : n ≤ 1099511627776) :
    Calls Tryd.prog 74 #[.pointer (some ⟨g, 0, none⟩), .int .i64 n] w fun r w' => r = .returned (.string (takE s e n).1) ∧ RdC w' g (takE s e n).2.1 (takE s e n).2.2 ∧ Only g w w' := by
  have h0 : w.cell? ⟨g, 0, none⟩ = some (.string s) := hr.cell 0
  have h1 : w.cell? ⟨g, 1, none⟩ = some (.int .i64 e) := hr.cell 1
  have f0 : w.frozen? ⟨g, 0, none⟩ = false := hr.frozen 0
  have f1 : w.frozen? ⟨g, 1, none⟩ = false := hr.frozen 1
  have HR := Lib.hid hr
  clear hr
  by_cases he : e = 0
  · subst he
    by_cases hl : s.size < n
    · have hq : (s.size : Int) < (n : Int) := by omega
      have HN := Lib.hid (show takE s 0 n = (noB, s, 6) by unfold takE; rw [if_neg (by decide), if_pos hl])
      clear hl
      go_enter Tryd.func74, Tryd.ntmps74
      go_wp2
      go_ret
      exact ⟨ret_str (by rw [HN.out]; rfl), (HR.out.setE 6).same (by rw [HN.out]) (by rw [HN.out]), Only.set _ _ _ _⟩
    · have hq : ¬ (s.size : Int) < (n : Int) := by omega
      have HN := Lib.hid (show takE s 0 n = (s.extract 0 n, s.extract n s.size, 0) by unfold takE; rw [if_neg (by decide), if_neg hl])
      clear hl
      go_enter Tryd.func74, Tryd.ntmps74
      go_wp2
      go_ret
      exact ⟨ret_str (by rw [HN.out]), (HR.out.setS _).same (by rw [HN.out]) (by rw [HN.out]), Only.set _ _ _ _⟩
  · have hne : ((e : Int) != 0) = true := by rw [bne_iff_ne]; omega
    have hne2 : ((e : Int) == 0) = false := by rw [beq_eq_false_iff_ne]; omega
    have HN := Lib.hid (takE_bad he s n)
    clear he
    go_enter Tryd.func74, Tryd.ntmps74
    go_wp2
    go_ret
    exact ⟨ret_str (by rw [HN.out]; rfl), HR.out.same (by rw [HN.out]) (by rw [HN.out]), Only.refl _ _⟩
set_option maxRecDepth 100000 in
set_option maxHeartbeats 400000 in
theorem rtarget_any (s : ByteArray) (w : World) (hs : s.size ≤ 140737488355328) :
    Calls Tryd.prog 46 #[.string s] w fun e w' => e = .returned (.bool (tgt s)) ∧ w = w' := by
  go_enter Tryd.func46, Tryd.ntmps46
  go_wp2
  go_loop [3] (fun i => ∃ k : Nat, k ≤ s.size ∧ i = .int .i64 k ∧ ((s.data.toList.take k).all fun c => decide (c ≠ 0)) = true) (fun i => s.size - (intOf i).toNat)
  case atStart => exact ⟨0, Nat.zero_le _, rfl, rfl⟩
  case round =>
    obtain ⟨k, hk, rfl, hall⟩ := hrel
    have Hall := Lib.hid hall
    clear hall
    by_cases hlt : k < s.size
    · have Hf := Lib.hid fun (h : decide (s[k] ≠ 0) = false) => tgt_no (ba_all_false (p := fun c => decide (c ≠ 0)) s k hlt h)
      have Hs := Lib.hid (ba_all_snoc (p := fun c => decide (c ≠ 0)) s k hlt Hall.out)
      have HZ0 := Lib.hid (u8_zero s[k])
      have hk0 : (0 : Int) ≤ (k : Int) := by omega
      have hk1 : (k : Int) < (s.size : Int) := by omega
      cases hq : ((s[k].toNat : Int) == 0) with
      | true =>
        have HF := Lib.hid (Hf.out (by rw [HZ0.out, hq]; rfl))
        go_wp2
        go_ret
        exact ⟨ret_bool HF.out.symm, rfl⟩
      | false =>
        have HS := Lib.hid (Hs.out (by rw [HZ0.out, hq]; rfl))
        go_wp2
        go_round
        case rel => exact ⟨k + 1, by omega, by go_num, HS.out⟩
        case measure => simp [intOf]; omega
    · obtain rfl : k = s.size := by omega
      have ha : (s.data.toList.all fun c => decide (c ≠ 0)) = true := by have := Hall.out; rwa [ba_take_all] at this
      have E := Lib.hid (show tgt s = (decide (1 ≤ s.size) && decide (s.size ≤ 200)) by unfold tgt; rw [ha, Bool.and_true])
      by_cases h0 : 1 ≤ s.size
      · have hq : (1 : Int) ≤ (s.size : Int) := by omega
        have E2 := Lib.hid (show tgt s = decide ((s.size : Int) ≤ 200) by rw [E.out, decide_eq_true h0, Bool.true_and, Bool.eq_iff_iff, decide_eq_true_eq, decide_eq_true_eq]; omega)
        clear h0 ha
        go_wp2
        go_ret
        exact ⟨ret_bool E2.out.symm, rfl⟩
      · have hq : ¬ (1 : Int) ≤ (s.size : Int) := by omega
        have E2 := Lib.hid (show tgt s = false by rw [E.out, decide_eq_false h0, Bool.false_and])
        clear h0 ha
        go_wp2
        go_ret
        exact ⟨ret_bool E2.out.symm, rfl⟩
end Go.Proofs.YtaoejgnfoecpfaaDoor
