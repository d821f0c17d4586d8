/- A tree's nodes: the document's cursor, Target and fit. A tree's nodes: the document's fit. A tree's nodes: the document's Check. A tree's nodes: the document's Read. -/
import Derived.Test.YtaoejgnfoecpfaaDoorJk10
import Derived.Test.YtaoejgnfoecpfaaDoorJk1
import Derived.Test.YtaoejgnfoecpfaaDoorJk4
namespace Go.Proofs.YtaoejgnfoecpfaaDoor
set_option linter.unusedVariables false
set_option linter.unusedSimpArgs false
set_option linter.unusedSectionVars false
open Go.RowKit

/-- the document's cursor in its block -/
def RdC (w : World) (g : Nat) (s : ByteArray) (e : Nat) : Prop := Blk w g 117 #[.string s, .int .i64 e]
theorem RdC.same {w : World} {g e e' : Nat} {s s' : ByteArray} (h : RdC w g s e) (h1 : s = s') (h2 : e = e') : RdC w g s' e' := by subst h1 h2; exact h
theorem RdC.setE {w : World} {g e : Nat} {s : ByteArray} (h : RdC w g s e) (c : Nat) : RdC (w.setCell ⟨g, 1, none⟩ (.int .i64 c)) g s c := by
  have := Blk.set_ h 1 (.int .i64 c)
  simpa [RdC] using this
theorem RdC.setS {w : World} {g e : Nat} {s : ByteArray} (h : RdC w g s e) (t : ByteArray) : RdC (w.setCell ⟨g, 0, none⟩ (.string t)) g t e := by
  have := Blk.set_ h 0 (.string t)
  simpa [RdC] using this
theorem GoR.set {g i : Nat} {w w' : World} (h : GoR g w w') (u : Value) : GoR g w (w'.setCell ⟨g, i, none⟩ u) := h.next (Touch.setc w' g i u)
set_option maxRecDepth 100000 in
set_option maxHeartbeats 800000 in
theorem cnum_any (g : Nat) (s : ByteArray) (e : Nat) (w : World) (hr : RdC w g s e) (hs : s.size ≤ 1099511627776) :
    Calls Tryd.prog 73 #[.pointer (some ⟨g, 0, none⟩)] w fun r w' => r = .returned (.int .i64 (numE s e).1) ∧ RdC w' g (numE s e).2.1 (numE s e).2.2 ∧ GoR g w w' := by
  have h0 : w.cell? ⟨g, 0, none⟩ = some (.string s) := hr.cell 0
  have h1 : w.cell? ⟨g, 1, none⟩ = some (.int .i64 e) := hr.cell 1
  have HR := Lib.hid hr
  by_cases he : e = 0
  · subst he
    have HU := Lib.hid fun W => refunvar_any s W hs
    obtain ⟨l1, l2, l3⟩ := unvar_le s.data.toList
    rw [ba_len] at l1
    by_cases h : (unvarL s.data.toList).2 = 0 ∨ 1099511627776 < (unvarL s.data.toList).1
    · have HN := Lib.hid (show numE s 0 = (0, s, 3) by unfold numE; rw [if_neg (by decide), if_pos h])
      generalize (unvarL s.data.toList).1 = x at *
      generalize (unvarL s.data.toList).2 = n at *
      clear hr l3
      have hq : ((n : Int) == 0) = true ∨ (((n : Int) == 0) = false ∧ (1099511627776 : Int) < (x : Int)) := by
        by_cases h0 : n = 0
        · exact .inl (by simp; omega)
        · exact .inr ⟨by simp; omega, by omega⟩
      clear h
      rcases hq with hq | ⟨hq, hq2⟩
      all_goals
        go_enter Tryd.func73, Tryd.ntmps73
        go_wp2_with fail
        refine (HU.out w).mono ?_
        rintro e w1 ⟨rfl, hb1⟩
        have hr1 : RdC w1 g s 0 := Blk.below HR.out hb1 (Blk.lt HR.out)
        have HG1 := Lib.hid (show GoR g w w1 from Touch.of_below _ hb1)
        have HR1 := Lib.hid hr1
        have c1 : w1.cell? ⟨g, 1, none⟩ = some (.int .i64 (0 : Nat)) := hr1.cell 1
        have f1 : w1.frozen? ⟨g, 1, none⟩ = false := hr1.frozen 1
        clear hr1 hb1
        go_wp2
        go_ret
        exact ⟨ret_int (by rw [HN.out]; rfl), (HR1.out.setE 3).same (by rw [HN.out]) (by rw [HN.out]), HG1.out.set _⟩
    · have HN := Lib.hid (show numE s 0 = ((unvarL s.data.toList).1, s.extract (unvarL s.data.toList).2 s.size, 0) by unfold numE; rw [if_neg (by decide), if_neg h])
      generalize (unvarL s.data.toList).1 = x at *
      generalize (unvarL s.data.toList).2 = n at *
      clear hr l3
      have hq : ((n : Int) == 0) = false := by simp; omega
      have hq2 : decide ((1099511627776 : Int) < (x : Int)) = false := decide_eq_false (by omega)
      have hx : (x : Int) ≤ 1099511627776 := by omega
      have hn1 : (n : Int) ≤ (s.size : Int) := by omega
      clear h
      go_enter Tryd.func73, Tryd.ntmps73
      go_wp2_with fail
      refine (HU.out w).mono ?_
      rintro e w1 ⟨rfl, hb1⟩
      have hr1 : RdC w1 g s 0 := Blk.below HR.out hb1 (Blk.lt HR.out)
      have HG1 := Lib.hid (show GoR g w w1 from Touch.of_below _ hb1)
      have HR1 := Lib.hid hr1
      have c0 : w1.cell? ⟨g, 0, none⟩ = some (.string s) := hr1.cell 0
      have f0 : w1.frozen? ⟨g, 0, none⟩ = false := hr1.frozen 0
      clear hr1 hb1
      go_wp2
      go_ret
      exact ⟨ret_int (by rw [HN.out]), (HR1.out.setS _).same (by rw [HN.out]) (by rw [HN.out]), HG1.out.set _⟩
  · have hq : ((e : Int) != 0) = true := by rw [bne_iff_ne]; omega
    have HN := Lib.hid (numE_bad he s)
    clear he hr
    go_enter Tryd.func73, Tryd.ntmps73
    go_wp2
    go_ret
    exact ⟨ret_int (by rw [HN.out]; rfl), HR.out.same (by rw [HN.out]) (by rw [HN.out]), Touch.refl _ _⟩
set_option maxRecDepth 100000 in
set_option maxHeartbeats 800000 in
theorem ctake_any (g : Nat) (s : ByteArray) (e n : Nat) (w : World) (hr : RdC w g s e) (_hs : s.size ≤ 1099511627776) (hn : n ≤ 1099511627776) :
    Calls Tryd.prog 74 #[.pointer (some ⟨g, 0, none⟩), .int .i64 n] w fun r w' => r = .returned (.string (takE s e n).1) ∧ RdC w' g (takE s e n).2.1 (takE s e n).2.2 ∧ Only g w w' := by
  have h0 : w.cell? ⟨g, 0, none⟩ = some (.string s) := hr.cell 0
  have h1 : w.cell? ⟨g, 1, none⟩ = some (.int .i64 e) := hr.cell 1
  have f0 : w.frozen? ⟨g, 0, none⟩ = false := hr.frozen 0
  have f1 : w.frozen? ⟨g, 1, none⟩ = false := hr.frozen 1
  have HR := Lib.hid hr
  clear hr
  by_cases he : e = 0
  · subst he
    by_cases hl : s.size < n
    · have hq : (s.size : Int) < (n : Int) := by omega
      have HN := Lib.hid (show takE s 0 n = (noB, s, 6) by unfold takE; rw [if_neg (by decide), if_pos hl])
      clear hl
      go_enter Tryd.func74, Tryd.ntmps74
      go_wp2
      go_ret
      exact ⟨ret_str (by rw [HN.out]; rfl), (HR.out.setE 6).same (by rw [HN.out]) (by rw [HN.out]), Only.set _ _ _ _⟩
    · have hq : ¬ (s.size : Int) < (n : Int) := by omega
      have HN := Lib.hid (show takE s 0 n = (s.extract 0 n, s.extract n s.size, 0) by unfold takE; rw [if_neg (by decide), if_neg hl])
      clear hl
      go_enter Tryd.func74, Tryd.ntmps74
      go_wp2
      go_ret
      exact ⟨ret_str (by rw [HN.out]), (HR.out.setS _).same (by rw [HN.out]) (by rw [HN.out]), Only.set _ _ _ _⟩
  · have hne : ((e : Int) != 0) = true := by rw [bne_iff_ne]; omega
    have hne2 : ((e : Int) == 0) = false := by rw [beq_eq_false_iff_ne]; omega
    have HN := Lib.hid (takE_bad he s n)
    clear he
    go_enter Tryd.func74, Tryd.ntmps74
    go_wp2
    go_ret
    exact ⟨ret_str (by rw [HN.out]; rfl), HR.out.same (by rw [HN.out]) (by rw [HN.out]), Only.refl _ _⟩
set_option maxRecDepth 100000 in
set_option maxHeartbeats 400000 in
theorem rtarget_any (s : ByteArray) (w : World) (hs : s.size ≤ 140737488355328) :
    Calls Tryd.prog 46 #[.string s] w fun e w' => e = .returned (.bool (tgt s)) ∧ w = w' := by
  go_enter Tryd.func46, Tryd.ntmps46
  go_wp2
  go_loop [3] (fun i => ∃ k : Nat, k ≤ s.size ∧ i = .int .i64 k ∧ ((s.data.toList.take k).all fun c => decide (c ≠ 0)) = true) (fun i => s.size - (intOf i).toNat)
  case atStart => exact ⟨0, Nat.zero_le _, rfl, rfl⟩
  case round =>
    obtain ⟨k, hk, rfl, hall⟩ := hrel
    have Hall := Lib.hid hall
    clear hall
    by_cases hlt : k < s.size
    · have Hf := Lib.hid fun (h : decide (s[k] ≠ 0) = false) => tgt_no (ba_all_false (p := fun c => decide (c ≠ 0)) s k hlt h)
      have Hs := Lib.hid (ba_all_snoc (p := fun c => decide (c ≠ 0)) s k hlt Hall.out)
      have HZ0 := Lib.hid (u8_zero s[k])
      have hk0 : (0 : Int) ≤ (k : Int) := by omega
      have hk1 : (k : Int) < (s.size : Int) := by omega
      cases hq : ((s[k].toNat : Int) == 0) with
      | true =>
        have HF := Lib.hid (Hf.out (by rw [HZ0.out, hq]; rfl))
        go_wp2
        go_ret
        exact ⟨ret_bool HF.out.symm, rfl⟩
      | false =>
        have HS := Lib.hid (Hs.out (by rw [HZ0.out, hq]; rfl))
        go_wp2
        go_round
        case rel => exact ⟨k + 1, by omega, by go_num, HS.out⟩
        case measure => simp [intOf]; omega
    · obtain rfl : k = s.size := by omega
      have ha : (s.data.toList.all fun c => decide (c ≠ 0)) = true := by have := Hall.out; rwa [ba_take_all] at this
      have E := Lib.hid (show tgt s = (decide (1 ≤ s.size) && decide (s.size ≤ 200)) by unfold tgt; rw [ha, Bool.and_true])
      by_cases h0 : 1 ≤ s.size
      · have hq : (1 : Int) ≤ (s.size : Int) := by omega
        have E2 := Lib.hid (show tgt s = decide ((s.size : Int) ≤ 200) by rw [E.out, decide_eq_true h0, Bool.true_and, Bool.eq_iff_iff, decide_eq_true_eq, decide_eq_true_eq]; omega)
        clear h0 ha
        go_wp2
        go_ret
        exact ⟨ret_bool E2.out.symm, rfl⟩
      · have hq : ¬ (1 : Int) ≤ (s.size : Int) := by omega
        have E2 := Lib.hid (show tgt s = false by rw [E.out, decide_eq_false h0, Bool.false_and])
        clear h0 ha
        go_wp2
        go_ret
        exact ⟨ret_bool E2.out.symm, rfl⟩
end Go.Proofs.YtaoejgnfoecpfaaDoor
namespace Go.Proofs.YtaoejgnfoecpfaaDoor
set_option linter.unusedVariables false
set_option linter.unusedSimpArgs false
set_option linter.unusedSectionVars false
open Go.RowKit

theorem blk7' {w : World} {g : Nat} {t : TypeId} {c0 c1 c2 c3 c4 c5 c6 : Value} (h : Blk w g t #[c0, c1, c2, c3, c4, c5, c6]) :
    (w.cell? ⟨g, 0, none⟩ = some c0 ∧ w.cell? ⟨g, 1, none⟩ = some c1 ∧ w.cell? ⟨g, 2, none⟩ = some c2 ∧ w.cell? ⟨g, 3, none⟩ = some c3 ∧ w.cell? ⟨g, 4, none⟩ = some c4 ∧ w.cell? ⟨g, 5, none⟩ = some c5 ∧ w.cell? ⟨g, 6, none⟩ = some c6) ∧
    (w.frozen? ⟨g, 0, none⟩ = false ∧ w.frozen? ⟨g, 1, none⟩ = false ∧ w.frozen? ⟨g, 2, none⟩ = false ∧ w.frozen? ⟨g, 3, none⟩ = false ∧ w.frozen? ⟨g, 4, none⟩ = false ∧ w.frozen? ⟨g, 5, none⟩ = false ∧ w.frozen? ⟨g, 6, none⟩ = false) :=
  ⟨⟨h.cell 0, h.cell 1, h.cell 2, h.cell 3, h.cell 4, h.cell 5, h.cell 6⟩, ⟨h.frozen 0, h.frozen 1, h.frozen 2, h.frozen 3, h.frozen 4, h.frozen 5, h.frozen 6⟩⟩
/-- a record's cells -/
def recC (x : Nr) (A : Option Addr) (c : Nat) : Array Value := #[.int .i64 x.kind, .string x.at_, .int .i64 x.mode, .int .i64 x.time, .int .i64 x.size, .slice A x.chunks.length c, .string x.target]
theorem kind_cases (x : Nr) : (kindOk x = false ∧ (x.kind < 1 ∨ (¬ x.kind < 1 ∧ 3 < x.kind))) ∨ (kindOk x = true ∧ ¬ x.kind < 1 ∧ ¬ 3 < x.kind ∧ (x.kind = 1 ∨ x.kind = 2 ∨ x.kind = 3)) := by
  cases h : kindOk x with
  | true =>
    unfold kindOk at h
    simp only [Bool.and_eq_true, decide_eq_true_eq] at h
    exact .inr ⟨rfl, by omega, by omega, by omega⟩
  | false =>
    unfold kindOk at h
    simp only [Bool.and_eq_false_iff, decide_eq_false_iff_not] at h
    exact .inl ⟨rfl, by omega⟩
theorem rfile_cases (x : Nr) : (fileOk x = false ∧ (x.size < 0 ∨ (¬ x.size < 0 ∧ 32768 < x.size) ∨ (¬ x.size < 0 ∧ ¬ 32768 < x.size ∧ x.size < (x.chunks.length : Int)) ∨ (¬ x.size < 0 ∧ ¬ 32768 < x.size ∧ ¬ x.size < (x.chunks.length : Int) ∧ 0 < x.size ∧ ((x.chunks.length : Int) == 0) = true))) ∨
    (¬ x.size < 0 ∧ ¬ 32768 < x.size ∧ ¬ x.size < (x.chunks.length : Int) ∧ (¬ 0 < x.size ∨ (0 < x.size ∧ ((x.chunks.length : Int) == 0) = false)) ∧ fileOk x = x.chunks.all fun c => decide (c.size = 32)) := by
  rcases file_cases x with ⟨h1, h2⟩ | ⟨h1, h2, h3, h4, h5⟩
  · refine .inl ⟨h1, ?_⟩
    rcases h2 with h | h | h | ⟨a, b, c, d, e⟩
    · exact .inl h
    · exact .inr (.inl h)
    · exact .inr (.inr (.inl h))
    · refine .inr (.inr (.inr ⟨a, b, c, ?_, e⟩))
      rw [beq_eq_false_iff_ne] at d
      omega
  · refine .inr ⟨h1, h2, h3, ?_, h5⟩
    by_cases h0 : 0 < x.size
    · refine .inr ⟨h0, ?_⟩
      rw [← h4, beq_eq_false_iff_ne]
      omega
    · exact .inl h0
set_option maxRecDepth 100000 in
set_option maxHeartbeats 6400000 in
theorem rfit_any (x : Nr) (A : Option Addr) (c : Nat) (w : World) (hst : StrsA w w.heap.size A x.chunks) (hat : x.at_.size ≤ 1000000) (htg : x.target.size ≤ 140737488355328) (hch : x.chunks.length ≤ 140737488355328) :
    Calls Tryd.prog 84 #[.agg (recC x A c)] w fun e w' => e = .returned (.int .i64 (fitN x : Nat)) ∧ Below w.heap.size w w' := by
  have HB0 := Lib.hid ((Below.refl w.heap.size w).alloc (Nat.le_refl _) (.cells (recC x A c) 72))
  have HK0 := Lib.hid (Blk.new w 72 (recC x A c))
  have HIS := Lib.hid fun W => refis_any x.at_ W hat
  have HTG := Lib.hid fun W => rtarget_any x.target W htg
  have HST := Lib.hid hst
  have FK := Lib.hid fun (h : kindOk x = false) => (show fitN x = 12 by unfold fitN; rw [if_pos h])
  have FP := Lib.hid fun (h : kindOk x = true) => fit_path h
  have FF := Lib.hid fun (h : kindOk x = true) => fit_form h
  have FO := Lib.hid fun (h : kindOk x = true) => fit_ok h
  have FM := Lib.hid fun h1 => form_mt (x := x) h1
  have F1 := Lib.hid fun h1 h => form_one (x := x) h1 h
  have F2 := Lib.hid fun h1 h => form_two (x := x) h1 h
  have F3 := Lib.hid fun h1 h => form_three (x := x) h1 h
  have MT := Lib.hid (mt_cases x)
  have KC := Lib.hid (kind_cases x)
  have FC := Lib.hid (rfile_cases x)
  clear hst hat htg
  unfold recC at *
  go_enter Tryd.func84, Tryd.ntmps84
  go_upto_region 1 with fail
  rcases KC.out with ⟨hk, hq⟩ | ⟨hk, hq1, hq2, hk3⟩
  · have HX := Lib.hid (FK.out hk)
    clear hk
    rcases hq with q1 | ⟨q1, q2⟩
    all_goals
      go_wp2
      go_ret
      exact ⟨ret_int (by rw [HX.out]; rfl), HB0.out⟩
  · generalize isPath x.at_ = ip at *
    go_wp2_with fail
    refine (HIS.out _).mono ?_
    rintro e w2 ⟨rfl, hb2⟩
    have HK2 := Lib.hid (HK0.out.below hb2 HK0.out.lt)
    have HB2 := Lib.hid (HB0.out.trans (hb2.mono HB0.out.size))
    have HST2 := Lib.hid (HST.out.below (HB0.out.trans (hb2.mono HB0.out.size)))
    clear hb2
    obtain ⟨⟨c0, c1, c2, c3, c4, c5, c6⟩, _⟩ := blk7' HK2.out
    cases ip with
    | false =>
      have HX := Lib.hid (FP.out hk rfl)
      go_wp2
      go_ret
      exact ⟨ret_int (by rw [HX.out]; rfl), HB2.out⟩
    | true =>
      rcases MT.out with ⟨hm, q1, q2, q3, q4⟩ | ⟨hm, hq⟩
      · rcases hk3 with h1 | h1 | h1
        · have HX := Lib.hid (FO.out hk rfl (F1.out hm h1))
          rw [h1] at c0
          clear hm hk h1 hq1 hq2
          go_wp2
          go_ret
          exact ⟨ret_int (by rw [HX.out]; rfl), HB2.out⟩
        · have HF1 := Lib.hid (F2.out hm h1)
          rw [h1] at c0
          have HK := Lib.hid hk
          clear hm h1 hq1 hq2 hk
          rcases FC.out with ⟨hf, hq⟩ | ⟨z1, z2, z3, z4, hf⟩
          · have HX := Lib.hid (FF.out HK.out rfl (HF1.out.trans hf))
            clear hf
            rcases hq with z1 | ⟨z1, z2⟩ | ⟨z1, z2, z3⟩ | ⟨z1, z2, z3, z4, z5⟩
            all_goals
              go_wp2
              go_ret
              exact ⟨ret_int (by rw [HX.out]; rfl), HB2.out⟩
          · have HMF := Lib.hid fun h => FF.out HK.out rfl (HF1.out.trans (hf.trans h))
            have HMO := Lib.hid fun h => FO.out HK.out rfl (HF1.out.trans (hf.trans h))
            clear hf
            rcases z4 with z4 | ⟨z4, z5⟩
            all_goals
              go_wp2
              go_loop [4, 79] (fun _ i => ∃ k : Nat, k ≤ x.chunks.length ∧ i = .int .i64 k ∧ ((x.chunks.take k).all fun c => decide (c.size = 32)) = true) (fun _ i => x.chunks.length - (intOf i).toNat)
              case atStart => exact ⟨0, Nat.zero_le _, rfl, rfl⟩
              case round =>
                obtain ⟨k, hk, rfl, hall⟩ := hrel
                have Hall := Lib.hid hall
                clear hall
                by_cases hlt : k < x.chunks.length
                · obtain ⟨bk, ok, rfl, hbk, hcc⟩ := HST2.out (by omega)
                  have hck := hcc k x.chunks[k] (List.getElem?_eq_getElem hlt)
                  have Hf := Lib.hid fun (h : decide (x.chunks[k].size = 32) = false) => HMF.out (all_no hlt h)
                  have Hs := Lib.hid fun (h : decide (x.chunks[k].size = 32) = true) => all_snoc (p := fun c => decide (c.size = 32)) hlt Hall.out h
                  clear hcc
                  generalize x.chunks[k] = ch at *
                  by_cases h32 : ch.size = 32
                  · have hne : ((ch.size : Int) != 32) = false := by rw [h32]; rfl
                    go_wp2
                    go_round
                    case rel => exact ⟨k + 1, by omega, by go_num, Hs.out (decide_eq_true h32)⟩
                    case measure => simp [intOf]; omega
                  · have hne : ((ch.size : Int) != 32) = true := by rw [bne_iff_ne]; omega
                    have HM := Lib.hid (Hf.out (decide_eq_false h32))
                    go_wp2
                    go_ret
                    exact ⟨ret_int (by rw [HM.out]; rfl), HB2.out⟩
                · obtain rfl : k = x.chunks.length := by omega
                  have HM := Lib.hid (HMO.out (by have := Hall.out; rwa [List.take_length] at this))
                  go_wp2
                  go_ret
                  exact ⟨ret_int (by rw [HM.out]; rfl), HB2.out⟩
        · have HF1 := Lib.hid (F3.out hm h1)
          rw [h1] at c0
          have HK := Lib.hid hk
          clear hm h1 hq1 hq2 hk
          generalize tgt x.target = tg at *
          go_wp2_with fail
          refine (HTG.out _).mono ?_
          rintro e w4 ⟨rfl, rfl⟩
          cases tg with
          | false =>
            have HX := Lib.hid (FF.out HK.out (by trivial) HF1.out)
            go_wp2
            go_ret
            exact ⟨ret_int (by rw [HX.out]; rfl), HB2.out⟩
          | true =>
            have HX := Lib.hid (FO.out HK.out (by trivial) HF1.out)
            go_wp2
            go_ret
            exact ⟨ret_int (by rw [HX.out]; rfl), HB2.out⟩
      · have HM := Lib.hid (FF.out hk rfl (FM.out hm))
        clear hm hk
        rcases hq with q1 | ⟨q1, q2⟩ | ⟨q1, q2, q3⟩ | ⟨q1, q2, q3, q4⟩
        all_goals
          go_wp2
          go_ret
          exact ⟨ret_int (by rw [HM.out]; rfl), HB2.out⟩
end Go.Proofs.YtaoejgnfoecpfaaDoor
namespace Go.Proofs.YtaoejgnfoecpfaaDoor
set_option linter.unusedVariables false
set_option linter.unusedSimpArgs false
set_option linter.unusedSectionVars false
open Go.RowKit

/-- a row of records -/
def RecsA (w : World) (A : Option Addr) (l : List Nr) : Prop := 0 < l.length → ∃ g o, A = some ⟨g, o, none⟩ ∧ g < w.heap.size ∧ ∀ (i : Nat) (x : Nr), l[i]? = some x → ∃ B c, (∀ (j : Nat) (u : Value), (recC x B c)[j]? = some u → w.cell? ⟨g, o + i * 7 + j, none⟩ = some u) ∧ StrsA w w.heap.size B x.chunks
theorem RecsA.below {w w' : World} {A : Option Addr} {l : List Nr} (h : RecsA w A l) (hb : Below w.heap.size w w') : RecsA w' A l := fun hl => by
  obtain ⟨g, o, rfl, hg, hc⟩ := h hl
  refine ⟨g, o, rfl, Nat.lt_of_lt_of_le hg hb.size, fun i x hi => ?_⟩
  obtain ⟨B, c, h1, h2⟩ := hc i x hi
  exact ⟨B, c, fun j u hj => (hb.cell (p := ⟨g, o + i * 7 + j, none⟩) hg).trans (h1 j u hj), h2.below hb⟩
theorem txt_eqb (a b : ByteArray) : (a.toList == b.toList) = decide (a = b) := by
  rw [Bool.eq_iff_iff, beq_iff_eq, decide_eq_true_eq]
  constructor
  · intro h
    rw [ba_toList, ba_toList] at h
    exact ba_inj h
  · rintro rfl; rfl
theorem there_snoc (l : List Nr) (k : Nat) (h : k < l.length) (p : ByteArray) : thereN (l.take (k + 1)) p = (thereN (l.take k) p || (decide (l[k].kind = 1) && decide (l[k].at_ = p))) := by
  unfold thereN
  rw [List.take_succ_eq_append_getElem h, List.any_append, Bool.or_assoc]
  simp
theorem int_eqb (a : Int) (b : Int) : (a == b) = decide (a = b) := by
  rw [Bool.eq_iff_iff, beq_iff_eq, decide_eq_true_eq]
set_option maxRecDepth 100000 in
set_option maxHeartbeats 6400000 in
theorem rcheck_any (l : List Nr) (A : Option Addr) (c : Nat) (w : World) (hn : RecsA w A l) (hb : ∀ x ∈ l, NrB x) (hp : ∀ x ∈ l, x.at_.size ≤ 1000000) (hl : l.length ≤ 9223372036854775807) (hc : l.length ≤ c) :
    Calls Tryd.prog 47 #[.slice A l.length c] w fun e w' => e = .returned (.int .i64 (chkN l : Nat)) ∧ Below w.heap.size w w' := by
  have HN := Lib.hid fun W (hb : Below w.heap.size w W) => hn.below hb
  have HB := Lib.hid hb
  have HP := Lib.hid hp
  clear hn hb hp
  by_cases h2 : 200 < l.length
  · have HC := Lib.hid (show chkN l = 2 from if_pos h2)
    have hq : (200 : Int) < (l.length : Int) := by omega
    clear h2
    go_enter Tryd.func47, Tryd.ntmps47
    go_wp2
    go_ret
    exact ⟨ret_int (by rw [HC.out]; rfl), Below.refl _ _⟩
  · have HC := Lib.hid (show chkN l = goN [] l from if_neg h2)
    have hq : ¬ (200 : Int) < (l.length : Int) := by omega
    go_enter Tryd.func47, Tryd.ntmps47
    go_wp2
    go_loopw [15] (fun i wr => ∃ k : Nat, i = .int .i64 k ∧ k ≤ l.length ∧ goN (l.take k) (l.drop k) = goN [] l ∧ (∀ y ∈ l.take k, fitN y = 0) ∧ Below w.heap.size w wr) (fun i _ => l.length - (intOf i).toNat)
    case atStart => exact ⟨0, rfl, Nat.zero_le _, rfl, (fun y hy => by simp at hy), Below.refl _ _⟩
    case round =>
      obtain ⟨k, rfl, hk, hgo, hfit, hbel⟩ := hrel
      have HBL := Lib.hid hbel
      by_cases hkl : k < l.length
      · have hdr : l.drop k = l[k] :: l.drop (k + 1) := List.drop_eq_getElem_cons hkl
        rw [hdr] at hgo
        have HGO := Lib.hid (HC.out.trans hgo.symm)
        have HTK := Lib.hid (List.take_succ_eq_append_getElem hkl)
        obtain ⟨g, o, rfl, hg, hcc⟩ := HN.out wr hbel (by omega)
        obtain ⟨B, cb, hck, hst⟩ := hcc k l[k] (List.getElem?_eq_getElem hkl)
        have HCC := Lib.hid hcc
        have hbk := HB.out _ (List.getElem_mem hkl)
        have hpk := HP.out _ (List.getElem_mem hkl)
        have HFT := Lib.hid hfit
        have HPR := Lib.hid fun (m : Nat) (hm : k = m + 1) => (show l[m]? = some (l[m]'(by omega)) from List.getElem?_eq_getElem (by omega))
        have HPZ := Lib.hid fun (m : Nat) (hm : k = m + 1) => (HP.out (l[m]'(by omega)) (List.getElem_mem _))
        have HLA := Lib.hid fun (m : Nat) (hm : k = m + 1) => (by subst hm; exact take_last (by omega) : (l.take k).getLast? = some (l[m]'(by omega)))
        have HGN := Lib.hid (@goN_step (l.take k) (l.drop (k + 1)) l[k])
        have HGS := Lib.hid (@goN_stop (l.take k) (l.drop (k + 1)) l[k])
        clear hcc hdr hgo hfit hbel
        generalize l[k] = x at *
        have HFI := Lib.hid fun W h => rfit_any x B cb W h hpk hbk.tg hbk.ch
        have q0 : wr.cell? ⟨g, o + k * 7, none⟩ = some (.int .i64 x.kind) := hck 0 _ rfl
        have q1 : wr.cell? ⟨g, o + k * 7 + 1, none⟩ = some (.string x.at_) := hck 1 _ rfl
        have q2 : wr.cell? ⟨g, o + k * 7 + 2, none⟩ = some (.int .i64 x.mode) := hck 2 _ rfl
        have q3 : wr.cell? ⟨g, o + k * 7 + 3, none⟩ = some (.int .i64 x.time) := hck 3 _ rfl
        have q4 : wr.cell? ⟨g, o + k * 7 + 4, none⟩ = some (.int .i64 x.size) := hck 4 _ rfl
        have q5 : wr.cell? ⟨g, o + k * 7 + 5, none⟩ = some (.slice B x.chunks.length cb) := hck 5 _ rfl
        have q6 : wr.cell? ⟨g, o + k * 7 + 6, none⟩ = some (.string x.target) := hck 6 _ rfl
        have hk0 : (0 : Int) ≤ (k : Int) := by omega
        have hki : (k : Int) < (l.length : Int) := by omega
        have hk3 : ((k : Int)).toNat = k := by omega
        have HPX := Lib.hid hpk
        clear hck hbk hpk
        go_upto_region 6 with fail
        have hba := (Below.refl wr.heap.size wr).alloc (Nat.le_refl _) (.cells (recC x B cb) 72)
        have HKA := Lib.hid (Blk.new wr 72 (recC x B cb))
        have HSA := Lib.hid (hst.below hba)
        have HBA := Lib.hid (HBL.out.trans (hba.mono HBL.out.size))
        have HWA := Lib.hid hba
        clear hst hba q0 q1 q2 q3 q4 q5 q6
        unfold recC at HKA HSA HBA HWA HFI
        generalize wr.alloc (.cells #[.int .i64 x.kind, .string x.at_, .int .i64 x.mode, .int .i64 x.time, .int .i64 x.size, .slice B x.chunks.length cb, .string x.target] 72) = wa at *
        obtain ⟨⟨c0, c1, c2, c3, c4, c5, c6⟩, _⟩ := blk7' HKA.out
        go_wp2_with fail
        refine (HFI.out _ HSA.out).mono ?_
        rintro e w2 ⟨rfl, hb2⟩
        have HB2 := Lib.hid (HBA.out.trans (hb2.mono HBA.out.size))
        have HK2 := Lib.hid (HKA.out.below hb2 HKA.out.lt)
        have HW2 := Lib.hid (HWA.out.trans (hb2.mono HWA.out.size))
        clear hb2 c0 c1 c2 c3 c4 c5 c6
        by_cases hfx : fitN x = 0
        · have hne : (((fitN x : Nat) : Int) != 0) = false := by rw [hfx]; rfl
          have HPP := Lib.hid fun W => refparent_any x.at_ W HPX.out
          have HSF := Lib.hid fun (h : l.take k = []) => (by rw [h]; exact stepN_first hfx : stepN (l.take k) x = if thereN [] (parentP x.at_) = false then 7 else 0)
          have HSN := Lib.hid fun y (hy : (l.take k).getLast? = some y) => stepN_next hy hfx
          have k1 : w2.cell? ⟨wr.heap.size, 1, none⟩ = some (.string x.at_) := HK2.out.cell 1
          go_upto_region 9 with fail
          go_cut [38] (fun v wc => ∃ bb : Bool, v = .bool bb ∧ (bb = true → stepN (l.take k) x = 4) ∧ (bb = false → stepN (l.take k) x = if thereN (l.take k) (parentP x.at_) = false then 7 else 0) ∧ Below w2.heap.size w2 wc)
          case first =>
            by_cases hk00 : k = 0
            · have hq0 : ¬ (0 : Int) < (k : Int) := by omega
              have hq0d : decide (0 < k) = false := decide_eq_false (by omega)
              have HS0 := Lib.hid (show stepN (l.take k) x = if thereN (l.take k) (parentP x.at_) = false then 7 else 0 by
                have h0 : l.take k = [] := by rw [hk00]; rfl
                rw [HSF.out h0, h0])
              have HCM := Lib.hid fun W => refcompare_any noB noB W (by decide) (by decide)
              have HCL := Lib.hid fun W (hW : Below w2.heap.size w2 W) => (show W.cell? ⟨wr.heap.size, 1, none⟩ = some (.string x.at_) ∧ True from ⟨(HK2.out.below hW HK2.out.lt).cell 1, trivial⟩)
              clear hk00
              refine wp_region_below (by kernel_rfl) (by kernel_rfl) ?_
              repeat
                first
                  | go_big_quiet_skip
                  | (go_big_quiet_want
                     go_big_quiet_op
                     first
                       | go_big_quiet_on
                       | (refine ⟨_, fun _ _ => rfl, ?_⟩; go_big_quiet_on)
                       | (apply Exists.intro
                          refine ⟨fun W hW => ?_, ?_⟩
                          first
                            | (go_at_call 85; refine (HCM.out W).mono ?_; rintro e w8 ⟨rfl, hb8⟩; exact ⟨rfl, hW.trans (hb8.mono hW.size)⟩)
                            | (obtain ⟨g0, g1⟩ := HCL.out W hW; go_simp; done)
                            | (obtain ⟨g0, g1⟩ := HCL.out W hW; go_simp; rfl)
                          go_big_quiet_on))
              refine wpQuiet_nil ?_
              intro w3 hb3
              go_wp2
              go_meet
              exact ⟨false, rfl, (fun h => by cases h), fun _ => HS0.out, hb3⟩
            · obtain ⟨m, hm⟩ : ∃ m, k = m + 1 := ⟨k - 1, by omega⟩
              have hq0 : (0 : Int) < (k : Int) := by omega
              have hq0d : decide (0 < k) = true := decide_eq_true (by omega)
              have hq1 : (k : Int) - 1 = (m : Int) := by omega
              have hq2 : (0 : Int) ≤ (m : Int) := by omega
              have hq3 : (m : Int) < (l.length : Int) := by omega
              have hq4 : ((m : Int)).toNat = m := by omega
              have hpr := HPR.out m hm
              have hla := HLA.out m hm
              have hpz := HPZ.out m hm
              clear hk00 HPR HLA HPZ
              generalize l[m]'(by omega) = y at *
              obtain ⟨By, cy, hcy, _⟩ := HCC.out m y hpr
              have hy1 := hcy 1 (.string y.at_) rfl
              have HCM := Lib.hid fun W => refcompare_any y.at_ x.at_ W hpz HPX.out
              have HCL := Lib.hid fun W (hW : Below w2.heap.size w2 W) => (show W.cell? ⟨wr.heap.size, 1, none⟩ = some (.string x.at_) ∧ W.cell? ⟨g, o + m * 7 + 1, none⟩ = some (.string y.at_) from ⟨(HK2.out.below hW HK2.out.lt).cell 1, ((HW2.out.trans (hW.mono HW2.out.size)).cell (p := ⟨g, o + m * 7 + 1, none⟩) hg).trans hy1⟩)
              have HNX := Lib.hid (HSN.out y hla)
              have h3 := cmpL_three (partsP y.at_) (partsP x.at_)
              generalize cmpL (partsP y.at_) (partsP x.at_) = cv at *
              clear hcy hy1 hpr hla hpz hm
              rcases h3 with rfl | rfl | rfl
              all_goals
                refine wp_region_below (by kernel_rfl) (by kernel_rfl) ?_
                repeat
                  first
                    | go_big_quiet_skip
                    | (go_big_quiet_want
                       go_big_quiet_op
                       first
                         | go_big_quiet_on
                         | (refine ⟨_, fun _ _ => rfl, ?_⟩; go_big_quiet_on)
                         | (apply Exists.intro
                            refine ⟨fun W hW => ?_, ?_⟩
                            first
                              | (go_at_call 85; refine (HCM.out W).mono ?_; rintro e w8 ⟨rfl, hb8⟩; exact ⟨rfl, hW.trans (hb8.mono hW.size)⟩)
                              | (obtain ⟨g0, g1⟩ := HCL.out W hW; go_simp; done)
                              | (obtain ⟨g0, g1⟩ := HCL.out W hW; go_simp; rfl)
                            go_big_quiet_on))
                refine wpQuiet_nil ?_
                intro w3 hb3
                go_wp2
                go_meet
              · exact ⟨false, rfl, (fun h => by cases h), (fun _ => HNX.out.trans (if_neg (by simp))), hb3⟩
              · exact ⟨true, rfl, (fun _ => HNX.out.trans (if_pos (by decide))), (fun h => by cases h), hb3⟩
              · exact ⟨true, rfl, (fun _ => HNX.out.trans (if_pos (by decide))), (fun h => by cases h), hb3⟩
          case rest =>
            obtain ⟨bb, rfl, hb4, hb0, hb3⟩ := hcut
            have HB3 := Lib.hid (HB2.out.trans (hb3.mono HB2.out.size))
            have HK3 := Lib.hid (HK2.out.below hb3 HK2.out.lt)
            have HW3 := Lib.hid (HW2.out.trans (hb3.mono HW2.out.size))
            have HS4 := Lib.hid hb4
            have HS0 := Lib.hid hb0
            clear hb3 hb4 hb0 HB2 HK2 HW2 HSF HSN k1
            cases bb with
            | true =>
              have HX := Lib.hid (show chkN l = 4 by rw [HGO.out, HGS.out (by rw [HS4.out rfl]; decide), HS4.out rfl])
              go_wp2
              go_ret
              exact ⟨ret_int (by rw [HX.out]; rfl), HB3.out⟩
            | false =>
              have HS := Lib.hid (HS0.out rfl)
              have k1 : wc.cell? ⟨wr.heap.size, 1, none⟩ = some (.string x.at_) := HK3.out.cell 1
              have HCT := Lib.hid fun (j : Nat) (y : Nr) (hj : l[j]? = some y) => HCC.out j y hj
              have HSNC := Lib.hid (there_snoc l)
              have HTH0 := Lib.hid (show ((parentP x.at_).toList.isEmpty) = thereN (l.take 0) (parentP x.at_) by
                rw [toList_isEmpty]
                unfold thereN
                rw [List.take_zero, List.any_nil, Bool.or_false])
              clear HS0 HS4
              have hkc : (k : Int) ≤ (c : Int) := by omega
              have hkc2 : k ≤ c := by omega
              generalize parentP x.at_ = pp at *
              go_wp2_with fail
              refine (HPP.out _).mono ?_
              rintro e w5 ⟨rfl, rfl⟩
              obtain ⟨tb0, htb0⟩ : ∃ tb0, pp.toList.isEmpty = tb0 := ⟨_, rfl⟩
              have HT0 := Lib.hid (htb0.symm.trans HTH0.out)
              go_wp2
              obtain ⟨wo, rfl⟩ : ∃ wo : World, wo = wr := ⟨_, rfl⟩
              go_loopw [7, 48] (fun tv jv wi => ∃ j : Nat, tv = .bool (thereN (l.take j) pp) ∧ jv = .int .i64 (j : Nat) ∧ j ≤ k ∧ Below wc.heap.size wc wi) (fun _ jv _ => k - (intOf jv).toNat)
              case atStart => exact ⟨0, by rw [← HT0.out], rfl, Nat.zero_le _, Below.refl _ _⟩
              case round =>
                obtain ⟨j, rfl, rfl, hj, hbi⟩ := hrel
                have HBI := Lib.hid hbi
                clear hbi
                by_cases hjk : j < k
                · have hjl : j < l.length := by omega
                  obtain ⟨By, cy, hcy, _⟩ := HCT.out j l[j] (List.getElem?_eq_getElem hjl)
                  have HCY := Lib.hid fun (i : Nat) (u : Value) (hi : (recC l[j] By cy)[i]? = some u) => ((HW3.out.trans (HBI.out.mono HW3.out.size)).cell (p := ⟨g, o + j * 7 + i, none⟩) hg).trans (hcy i u hi)
                  have hsn := HSNC.out j hjl pp
                  have heq := txt_eqb l[j].at_ pp
                  have hke := int_eqb l[j].kind 1
                  clear hcy
                  generalize decide (l[j].at_ = pp) = da at *
                  generalize decide (l[j].kind = 1) = dk at *
                  generalize l[j] = y at *
                  have HSX := Lib.hid hsn
                  clear hsn
                  have q0 : wr.cell? ⟨g, o + j * 7, none⟩ = some (.int .i64 y.kind) := HCY.out 0 _ rfl
                  have q1 : wr.cell? ⟨g, o + j * 7 + 1, none⟩ = some (.string y.at_) := HCY.out 1 _ rfl
                  have q2 : wr.cell? ⟨g, o + j * 7 + 2, none⟩ = some (.int .i64 y.mode) := HCY.out 2 _ rfl
                  have q3 : wr.cell? ⟨g, o + j * 7 + 3, none⟩ = some (.int .i64 y.time) := HCY.out 3 _ rfl
                  have q4 : wr.cell? ⟨g, o + j * 7 + 4, none⟩ = some (.int .i64 y.size) := HCY.out 4 _ rfl
                  have q5 : wr.cell? ⟨g, o + j * 7 + 5, none⟩ = some (.slice By y.chunks.length cy) := HCY.out 5 _ rfl
                  have q6 : wr.cell? ⟨g, o + j * 7 + 6, none⟩ = some (.string y.target) := HCY.out 6 _ rfl
                  have hj0 : (0 : Int) ≤ (j : Int) := by omega
                  have hj1 : (j : Int) < (k : Int) := by omega
                  have hj3 : ((j : Int)).toNat = j := by omega
                  have HBJ := Lib.hid (HBI.out.alloc HBI.out.size (.cells #[.int .i64 y.kind, .string y.at_, .int .i64 y.mode, .int .i64 y.time, .int .i64 y.size, .slice By y.chunks.length cy, .string y.target] 72))
                  generalize thereN (l.take j) pp = tb at *
                  cases tb with
                  | true =>
                    go_wp2
                    go_roundw
                    case rel => exact ⟨j + 1, by rw [HSX.out]; rfl, by go_num, by omega, HBJ.out⟩
                    case measure => simp [intOf]; omega
                  | false =>
                    cases dk with
                    | false =>
                      go_wp2
                      go_roundw
                      case rel => exact ⟨j + 1, by rw [HSX.out]; rfl, by go_num, by omega, HBJ.out⟩
                      case measure => simp [intOf]; omega
                    | true =>
                      go_wp2
                      go_roundw
                      case rel => exact ⟨j + 1, by rw [HSX.out]; rfl, by go_num, by omega, HBJ.out⟩
                      case measure => simp [intOf]; omega
                · obtain rfl : j = k := by omega
                  have HB5 := Lib.hid (HB3.out.trans (HBI.out.mono HB3.out.size))
                  cases hth : thereN (l.take j) pp with
                  | false =>
                    have HX := Lib.hid (show chkN l = 7 by
                      have h7 : stepN (l.take j) x = 7 := HS.out.trans (if_pos hth)
                      rw [HGO.out, HGS.out (by rw [h7]; decide), h7])
                    clear hth
                    go_wp2
                    go_ret
                    exact ⟨ret_int (by rw [HX.out]; rfl), HB5.out⟩
                  | true =>
                    have HG1 := Lib.hid (HGN.out (HS.out.trans (if_neg (by rw [hth]; simp))))
                    have HF0 := Lib.hid (show ∀ y ∈ l.take (j + 1), fitN y = 0 from fun y hy => by
                      rw [HTK.out, List.mem_append, List.mem_singleton] at hy
                      rcases hy with hy | rfl
                      · exact HFT.out y hy
                      · exact hfx)
                    clear hth
                    go_wp2
                    go_roundw
                    case rel => exact ⟨j + 1, by go_num, by omega, by rw [HTK.out, ← HG1.out, HGO.out.symm]; exact HC.out, HF0.out, HB5.out⟩
                    case measure => simp [intOf]; omega
        · have hne : (((fitN x : Nat) : Int) != 0) = true := by rw [bne_iff_ne]; omega
          have HX := Lib.hid (show chkN l = fitN x by rw [HGO.out, HGS.out (by rw [stepN_fit hfx]; exact hfx), stepN_fit hfx])
          clear hfx
          go_wp2
          go_ret
          exact ⟨ret_int (by rw [HX.out]), HB2.out⟩
      · obtain rfl : k = l.length := by omega
        rw [List.drop_length] at hgo
        have HX := Lib.hid (show chkN l = 0 from HC.out.trans hgo.symm)
        clear hgo hfit
        go_wp2
        go_ret
        exact ⟨ret_int (by rw [HX.out]; rfl), HBL.out⟩
end Go.Proofs.YtaoejgnfoecpfaaDoor
namespace Go.Proofs.YtaoejgnfoecpfaaDoor
set_option linter.unusedVariables false
set_option linter.unusedSimpArgs false
set_option linter.unusedSectionVars false
open Go.RowKit

theorem infoRc : (Tryd.prog.info? 72).map (fun i => (i.zero, i.size, i.bytes)) = some (some (.agg #[.int .i64 0, .string ⟨#[]⟩, .int .i64 0, .int .i64 0, .int .i64 0, .slice none 0 0, .string ⟨#[]⟩]), 7, 88) := by kernel_rfl
theorem GoR.blk {g p : Nat} {w w' : World} {t : TypeId} {cs : Array Value} (h : GoR g w w') (hb : Blk w p t cs) (hp : p ≠ g) : Blk w' p t cs := (h.block p hb.lt hp).trans hb
theorem GoR.setP {g p i : Nat} {w w' : World} (h : GoR g w w') (hp : w.heap.size ≤ p) (u : Value) : GoR g w (w'.setCell ⟨p, i, none⟩ u) := h.trans (Touch.setc w' p i u) fun j hj e => by omega
theorem RdC.far {w : World} {g e p i : Nat} {s : ByteArray} (h : RdC w g s e) (hp : g ≠ p) (u : Value) : RdC (w.setCell ⟨p, i, none⟩ u) g s e := Blk.far h (by simpa using hp) u
/-- the record that is being read -/
structure RdSt (wo wc : World) (g p : Nat) (x : Nr) (s : ByteArray) (e : Nat) (B : Option Addr) (cb : Nat) : Prop where
  rd : RdC wc g s e
  blk : Blk wc p 72 (recC x B cb)
  st : StrsA wc wc.heap.size B x.chunks
  nw : ∀ k o, B = some ⟨k, o, none⟩ → wo.heap.size < k
  go : GoR g wo wc
def pre0 (k : Nat) (a : ByteArray) (m t : Nat) : Nr := ⟨k, a, m, t, 0, [], noB⟩
def err0 (k e : Nat) : Nat := if k = 1 ∨ k = 2 ∨ k = 3 then e else failE e 3
/-- behind a file's part -/
def rest2 (k : Nat) (a : ByteArray) (m t : Nat) (s : ByteArray) (e : Nat) : Nr × ByteArray × Nat := if k = 2 then restE 2 a m t s e else (pre0 k a m t, s, err0 k e)
theorem restE_1 {k : Nat} (h2 : k ≠ 2) (h3 : k ≠ 3) (a : ByteArray) (m t : Nat) (s : ByteArray) (e : Nat) : restE k a m t s e = rest2 k a m t s e := by
  unfold rest2
  rw [if_neg h2]
  unfold err0 pre0
  by_cases h1 : k = 1
  · rw [if_pos (.inl h1), restE_one h1]
  · rw [if_neg (by omega), restE_no h1 h2 h3]
theorem restE_2 {k : Nat} (h : k = 2) (a : ByteArray) (m t : Nat) (s : ByteArray) (e : Nat) : restE k a m t s e = rest2 k a m t s e := by
  subst h
  unfold rest2
  rw [if_pos rfl]
def RSt (wo : World) (g p : Nat) (r : Nr × ByteArray × Nat) (wc : World) : Prop := ∃ B cb, RdSt wo wc g p r.1 r.2.1 r.2.2 B cb
/-- the records so far, and where each's chunks lie -/
def RecsV (w : World) (P : Nat → Prop) (rs : List (Nr × Option Addr × Nat)) : Prop := ∀ r ∈ rs, StrsA w w.heap.size r.2.1 r.1.chunks ∧ (0 < r.1.chunks.length → ∀ k o, r.2.1 = some ⟨k, o, none⟩ → P k)
def recsC (rs : List (Nr × Option Addr × Nat)) : List Value := (rs.map fun r => (recC r.1 r.2.1 r.2.2).toList).flatten
theorem recsC_snoc (rs : List (Nr × Option Addr × Nat)) (r : Nr × Option Addr × Nat) : recsC (rs ++ [r]) = recsC rs ++ (recC r.1 r.2.1 r.2.2).toList := by unfold recsC; simp
theorem StrsA.keep {w w' : World} {A : Option Addr} {l : List ByteArray} (h : StrsA w w.heap.size A l) (hs : w.heap.size ≤ w'.heap.size) (he : 0 < l.length → ∀ g o, A = some ⟨g, o, none⟩ → g < w.heap.size → w'.heap[g]? = w.heap[g]?) : StrsA w' w'.heap.size A l := fun hl => by
  obtain ⟨g, o, rfl, h2, h3⟩ := h hl
  exact ⟨g, o, rfl, Nat.lt_of_lt_of_le h2 hs, fun j u hj => (World.cell?_of_block (he hl g o rfl h2)).trans (h3 j u hj)⟩
theorem RecsV.keep {w w' : World} {P Q : Nat → Prop} {rs : List (Nr × Option Addr × Nat)} (h : RecsV w P rs) (hs : w.heap.size ≤ w'.heap.size) (hk : ∀ k, P k → k < w.heap.size → w'.heap[k]? = w.heap[k]? ∧ Q k) : RecsV w' Q rs := fun r hr => by
  obtain ⟨h1, h2⟩ := h r hr
  refine ⟨h1.keep hs fun hl g o e hg => (hk g (h2 hl g o e) hg).1, fun hl k o e => ?_⟩
  obtain ⟨g, o', e', hg, _⟩ := h1 hl
  rw [e] at e'
  injection e' with e'
  injection e' with e1 e2
  subst e1
  exact (hk k (h2 hl k o e) hg).2
theorem RecsV.snoc {w : World} {P : Nat → Prop} {rs : List (Nr × Option Addr × Nat)} {r : Nr × Option Addr × Nat} (h : RecsV w P rs) (h1 : StrsA w w.heap.size r.2.1 r.1.chunks) (h2 : 0 < r.1.chunks.length → ∀ k o, r.2.1 = some ⟨k, o, none⟩ → P k) : RecsV w P (rs ++ [r]) := fun q hq => by
  rcases List.mem_append.1 hq with hq | hq
  · exact h q hq
  · obtain rfl := List.mem_singleton.1 hq
    exact ⟨h1, h2⟩
theorem own_rowN {w : World} {B n k c : Nat} {t : TypeId} {A : Option Addr} {l : List (List Value)} (hk : 0 < k) (hc : ∀ x ∈ l, x.length = k) (h : w.ownsRow B t k (.slice A n c) n l.flatten) : (0 < l.length → ∃ g o, A = some ⟨g, o, none⟩ ∧ g < w.heap.size ∧ ∀ (i : Nat) (c : List Value), l[i]? = some c → ∀ (j : Nat) (u : Value), c[j]? = some u → w.cell? ⟨g, o + i * k + j, none⟩ = some u) ∧ n = l.length := by
  have hfl : l.flatten.length = l.length * k := by
    clear h
    induction l with
    | nil => simp
    | cons y r ih => rw [List.flatten_cons, List.length_append, hc y (by simp), ih (fun x hx => hc x (by simp [hx])), List.length_cons, Nat.succ_mul]; omega
  have hn : n = l.length := by
    have := h.1
    rw [hfl] at this
    exact Nat.eq_of_mul_eq_mul_right hk this.symm
  refine ⟨fun hl => ?_, hn⟩
  rcases h.2 with ⟨hv, _⟩ | ⟨g, cap, cur, hv, _⟩
  · simp at hv; omega
  · simp only [Value.slice.injEq] at hv
    obtain ⟨rfl, _, rfl⟩ := hv
    refine ⟨g, 0, rfl, (h.lt g rfl).2, fun i x hi j u hj => ?_⟩
    have hil : i < l.length := (List.getElem?_eq_some_iff.1 hi).1
    have hx := hc x (List.mem_of_getElem? hi)
    have hjl : j < k := by have := (List.getElem?_eq_some_iff.1 hj).1; omega
    have hb : i * k + j < n * k := by
      rw [hn]
      calc i * k + j < i * k + k := by omega
        _ = (i + 1) * k := by rw [Nat.succ_mul]
        _ ≤ l.length * k := Nat.mul_le_mul_right k hil
    rw [Nat.zero_add, h.cellAt (i * k + j) hb]
    have key : ∀ (l : List (List Value)) (i : Nat), (∀ x ∈ l, x.length = k) → l[i]? = some x → l.flatten[i * k + j]? = some u := by
      intro l
      induction l with
      | nil => intro i _ hi; simp at hi
      | cons y r ih =>
        intro i hc hi
        rw [List.flatten_cons]
        have hy := hc y (by simp)
        cases i with
        | zero =>
          simp only [List.getElem?_cons_zero, Option.some.injEq] at hi
          subst hi
          rw [Nat.zero_mul, Nat.zero_add, List.getElem?_append_left (by omega)]
          exact hj
        | succ i =>
          simp only [List.getElem?_cons_succ] at hi
          rw [List.getElem?_append_right (by rw [hy, Nat.succ_mul]; omega), hy]
          have e : (i + 1) * k + j - k = i * k + j := by rw [Nat.succ_mul]; omega
          rw [e]
          exact ih i (fun x hx => hc x (by simp [hx])) hi
    exact key l i hc hi
theorem RecsV.row {w : World} {P : Nat → Prop} {rs : List (Nr × Option Addr × Nat)} {B n c : Nat} {t : TypeId} {A : Option Addr} (h : RecsV w P rs) (ho : w.ownsRow B t 7 (.slice A n c) n (recsC rs)) : RecsA w A (rs.map (·.1)) := fun hl => by
  rw [List.length_map] at hl
  have hc7 : ∀ x ∈ (rs.map fun r => (recC r.1 r.2.1 r.2.2).toList), x.length = 7 := fun x hx => by obtain ⟨r, _, rfl⟩ := List.mem_map.1 hx; rfl
  obtain ⟨g, o, rfl, hg, hc⟩ := (own_rowN (by decide) hc7 ho).1 (by rw [List.length_map]; exact hl)
  refine ⟨g, o, rfl, hg, fun i x hx => ?_⟩
  rw [List.getElem?_map] at hx
  obtain ⟨r, hr, rfl⟩ := Option.map_eq_some_iff.1 hx
  obtain ⟨h1, _⟩ := h r (List.mem_of_getElem? hr)
  exact ⟨r.2.1, r.2.2, fun j u hj => hc i _ (by rw [List.getElem?_map, hr]; rfl) j u (by simpa using hj), h1⟩
def DecRPost (s : ByteArray) (w : World) (r : Ending) (w' : World) : Prop :=
  ∃ A c, r = .returned (.tuple #[.slice A (decN s).1.length c, .int .i64 ((decN s).2 : Nat)]) ∧ RecsA w' A (decN s).1 ∧ Below w.heap.size w w' ∧ (decN s).1.length ≤ c
end Go.Proofs.YtaoejgnfoecpfaaDoor
