/- A tree's nodes: the document's fit. -/
import Derived.Test.YtaoejgnfoecpfaaDoorNh
namespace Go.Proofs.YtaoejgnfoecpfaaDoor
open Go.RowKit

theorem blk7' {w : World} {g : Nat} {t : TypeId} {c0 c1 c2 c3 c4 c5 c6 : Value} (h : Blk w g t #[c0, c1, c2, c3, c4, c5, c6]) :
    (w.cell? ⟨g, 0, none⟩ = some c0 ∧ w.cell? ⟨g, 1, none⟩ = some c1 ∧ w.cell? ⟨g, 2, none⟩ = some c2 ∧ w.cell? ⟨g, 3, none⟩ = some c3 ∧ w.cell? ⟨g, 4, none⟩ = some c4 ∧ w.cell? ⟨g, 5, none⟩ = some c5 ∧ w.cell? ⟨g, 6, none⟩ = some c6) ∧
    (w.frozen? ⟨g, 0, none⟩ = false ∧ w.frozen? ⟨g, 1, none⟩ = false ∧ w.frozen? ⟨g, 2, none⟩ = false ∧ w.frozen? ⟨g, 3, none⟩ = false ∧ w.frozen? ⟨g, 4, none⟩ = false ∧ w.frozen? ⟨g, 5, none⟩ = false ∧ w.frozen? ⟨g, 6, none⟩ = false) :=
  ⟨⟨h.cell 0, h.cell 1, h.cell 2, h.cell 3, h.cell 4, h.cell 5, h.cell 6⟩, ⟨h.frozen 0, h.frozen 1, h.frozen 2, h.frozen 3, h.frozen 4, h.frozen 5, h.frozen 6⟩⟩
/-- a record's cells -/
def recC (x : Nr) (A : Option Addr) (c : Nat) : Array Value := #[.int .i64 x.kind, .string x.at_, .int .i64 x.mode, .int .i64 x.time, .int .i64 x.size, .slice A x.chunks.length c, .string x.target]
theorem kind_cases (x : Nr) : (kindOk x = false ∧ (x.kind < 1 ∨ (¬ x.kind < 1 ∧ 3 < x.kind))) ∨ (kindOk x = true ∧ ¬ x.kind < 1 ∧ ¬ 3 < x.kind ∧ (x.kind = 1 ∨ x.kind = 2 ∨ x.kind = 3)) := by
  cases h : kindOk x with
  | true =>
    unfold kindOk at h
    simp only [Bool.and_eq_true, decide_eq_true_eq] at h
    exact .inr ⟨rfl, by omega, by omega, by omega⟩
  | false =>
    unfold kindOk at h
    simp only [Bool.and_eq_false_iff, decide_eq_false_iff_not] at h
    exact .inl ⟨rfl, by omega⟩
theorem rfile_cases (x : Nr) : (fileOk x = false ∧ (x.size < 0 ∨ (¬ x.size < 0 ∧ 32768 < x.size) ∨ (¬ x.size < 0 ∧ ¬ 32768 < x.size ∧ x.size < (x.chunks.length : Int)) ∨ (¬ x.size < 0 ∧ ¬ 32768 < x.size ∧ ¬ x.size < (x.chunks.length : Int) ∧ 0 < x.size ∧ ((x.chunks.length : Int) == 0) = true))) ∨
    (¬ x.size < 0 ∧ ¬ 32768 < x.size ∧ ¬ x.size < (x.chunks.length : Int) ∧ (¬ 0 < x.size ∨ (0 < x.size ∧ ((x.chunks.length : Int) == 0) = false)) ∧ fileOk x = x.chunks.all fun c => decide (c.size = 32)) := by
  rcases file_cases x with ⟨h1, h2⟩ | ⟨h1, h2, h3, h4, h5⟩
  · refine .inl ⟨h1, ?_⟩
    rcases h2 with h | h | h | ⟨a, b, c, d, e⟩
    · exact .inl h
    · exact .inr (.inl h)
    · exact .inr (.inr (.inl h))
    · refine .inr (.inr (.inr ⟨a, b, c, ?_, e⟩))
      rw [beq_eq_false_iff_ne] at d
      omega
  · refine .inr ⟨h1, h2, h3, ?_, h5⟩
    by_cases h0 : 0 < x.size
    · refine .inr ⟨h0, ?_⟩
      rw [← h4, beq_eq_false_iff_ne]
      omega
    · exact .inl h0
set_option maxRecDepth 100000 in
set_option maxHeartbeats 6400000 in
theorem rfit_any (x : Nr) (A : Option Addr) (c : Nat) (w : World) (hst : StrsA w w.heap.size A x.chunks) (hat : x.at_.size ≤ 1000000) (htg : x.target.size ≤ 140737488355328) (hch : x.chunks.length ≤ 140737488355328) :
    Calls Tryd.prog 84 #[.agg (recC x A c)] w fun e w' => e = .returned (.int .i64 (fitN x : Nat)) ∧ Below w.heap.size w w' := by
  have HB0 := Lib.hid ((Below.refl w.heap.size w).alloc (Nat.le_refl _) (.cells (recC x A c) 72))
  have HK0 := Lib.hid (Blk.new w 72 (recC x A c))
  have HIS := Lib.hid fun W => refis_any x.at_ W hat
  have HTG := Lib.hid fun W => rtarget_any x.target W htg
  have HST := Lib.hid hst
  have FK := Lib.hid fun (h : kindOk x = false) => (show fitN x = 12 by unfold fitN; rw [if_pos h])
  have FP := Lib.hid fun (h : kindOk x = true) => fit_path h
  have FF := Lib.hid fun (h : kindOk x = true) => fit_form h
  have FO := Lib.hid fun (h : kindOk x = true) => fit_ok h
  have FM := Lib.hid fun h1 => form_mt (x := x) h1
  have F1 := Lib.hid fun h1 h => form_one (x := x) h1 h
  have F2 := Lib.hid fun h1 h => form_two (x := x) h1 h
  have F3 := Lib.hid fun h1 h => form_three (x := x) h1 h
  have MT := Lib.hid (mt_cases x)
  have KC := Lib.hid (kind_cases x)
  have FC := Lib.hid (rfile_cases x)
  clear hst hat htg
  unfold recC at *
  go_enter Tryd.func84, Tryd.ntmps84
  go_upto_region 1 with fail
  rcases KC.out with ⟨hk, hq⟩ | ⟨hk, hq1, hq2, hk3⟩
  · have HX := Lib.hid (FK.out hk)
    clear hk
    rcases hq with q1 | ⟨q1, q2⟩
    all_goals
      go_wp2
      go_ret
      exact ⟨ret_int (by rw [HX.out]; rfl), HB0.out⟩
  · generalize isPath x.at_ = ip at *
    go_wp2_with fail
    refine (HIS.out _).mono ?_
    rintro e w2 ⟨rfl, hb2⟩
    have HK2 := Lib.hid (HK0.out.below hb2 HK0.out.lt)
    have HB2 := Lib.hid (HB0.out.trans (hb2.mono HB0.out.size))
    have HST2 := Lib.hid (HST.out.below (HB0.out.trans (hb2.mono HB0.out.size)))
    clear hb2
    obtain ⟨⟨c0, c1, c2, c3, c4, c5, c6⟩, _⟩ := blk7' HK2.out
    cases ip with
    | false =>
      have HX := Lib.hid (FP.out hk rfl)
      go_wp2
      go_ret
      exact ⟨ret_int (by rw [HX.out]; rfl), HB2.out⟩
    | true =>
      rcases MT.out with ⟨hm, q1, q2, q3, q4⟩ | ⟨hm, hq⟩
      · rcases hk3 with h1 | h1 | h1
        · have HX := Lib.hid (FO.out hk rfl (F1.out hm h1))
          rw [h1] at c0
          clear hm hk h1 hq1 hq2
          go_wp2
          go_ret
          exact ⟨ret_int (by rw [HX.out]; rfl), HB2.out⟩
        · have HF1 := Lib.hid (F2.out hm h1)
          rw [h1] at c0
          have HK := Lib.hid hk
          clear hm h1 hq1 hq2 hk
          rcases FC.out with ⟨hf, hq⟩ | ⟨z1, z2, z3, z4, hf⟩
          · have HX := Lib.hid (FF.out HK.out rfl (HF1.out.trans hf))
            clear hf
            rcases hq with z1 | ⟨z1, z2⟩ | ⟨z1, z2, z3⟩ | ⟨z1, z2, z3, z4, z5⟩
            all_goals
              go_wp2
              go_ret
              exact ⟨ret_int (by rw [HX.out]; rfl), HB2.out⟩
          · have HMF := Lib.hid fun h => FF.out HK.out rfl (HF1.out.trans (hf.trans h))
            have HMO := Lib.hid fun h => FO.out HK.out rfl (HF1.out.trans (hf.trans h))
            clear hf
            rcases z4 with z4 | ⟨z4, z5⟩
            all_goals
              go_wp2
              go_loop [4, 79] (fun _ i => ∃ k : Nat, k ≤ x.chunks.length ∧ i = .int .i64 k ∧ ((x.chunks.take k).all fun c => decide (c.size = 32)) = true) (fun _ i => x.chunks.length - (intOf i).toNat)
              case atStart => exact ⟨0, Nat.zero_le _, rfl, rfl⟩
              case round =>
                obtain ⟨k, hk, rfl, hall⟩ := hrel
                have Hall := Lib.hid hall
                clear hall
                by_cases hlt : k < x.chunks.length
                · obtain ⟨bk, ok, rfl, hbk, hcc⟩ := HST2.out (by omega)
                  have hck := hcc k x.chunks[k] (List.getElem?_eq_getElem hlt)
                  have Hf := Lib.hid fun (h : decide (x.chunks[k].size = 32) = false) => HMF.out (all_no hlt h)
                  have Hs := Lib.hid fun (h : decide (x.chunks[k].size = 32) = true) => all_snoc (p := fun c => decide (c.size = 32)) hlt Hall.out h
                  clear hcc
                  generalize x.chunks[k] = ch at *
                  by_cases h32 : ch.size = 32
                  · have hne : ((ch.size : Int) != 32) = false := by rw [h32]; rfl
                    go_wp2
                    go_round
                    case rel => exact ⟨k + 1, by omega, by go_num, Hs.out (decide_eq_true h32)⟩
                    case measure => simp [intOf]; omega
                  · have hne : ((ch.size : Int) != 32) = true := by rw [bne_iff_ne]; omega
                    have HM := Lib.hid (Hf.out (decide_eq_false h32))
                    go_wp2
                    go_ret
                    exact ⟨ret_int (by rw [HM.out]; rfl), HB2.out⟩
                · obtain rfl : k = x.chunks.length := by omega
                  have HM := Lib.hid (HMO.out (by have := Hall.out; rwa [List.take_length] at this))
                  go_wp2
                  go_ret
                  exact ⟨ret_int (by rw [HM.out]; rfl), HB2.out⟩
        · have HF1 := Lib.hid (F3.out hm h1)
          rw [h1] at c0
          have HK := Lib.hid hk
          clear hm h1 hq1 hq2 hk
          generalize tgt x.target = tg at *
          go_wp2_with fail
          refine (HTG.out _).mono ?_
          rintro e w4 ⟨rfl, rfl⟩
          cases tg with
          | false =>
            have HX := Lib.hid (FF.out HK.out (by trivial) HF1.out)
            go_wp2
            go_ret
            exact ⟨ret_int (by rw [HX.out]; rfl), HB2.out⟩
          | true =>
            have HX := Lib.hid (FO.out HK.out (by trivial) HF1.out)
            go_wp2
            go_ret
            exact ⟨ret_int (by rw [HX.out]; rfl), HB2.out⟩
      · have HM := Lib.hid (FF.out hk rfl (FM.out hm))
        clear hm hk
        rcases hq with q1 | ⟨q1, q2⟩ | ⟨q1, q2, q3⟩ | ⟨q1, q2, q3, q4⟩
        all_goals
          go_wp2
          go_ret
          exact ⟨ret_int (by rw [HM.out]; rfl), HB2.out⟩
end Go.Proofs.YtaoejgnfoecpfaaDoor
