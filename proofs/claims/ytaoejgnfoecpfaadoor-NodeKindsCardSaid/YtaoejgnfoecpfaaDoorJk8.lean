/- A tree's nodes: fit. -/
import Derived.Test.YtaoejgnfoecpfaaDoorJk7
namespace Go.Proofs.YtaoejgnfoecpfaaDoor
set_option linter.unusedVariables false
set_option linter.unusedSimpArgs false
set_option linter.unusedSectionVars false
open Go.RowKit

/-- the bounds of what came in -/
structure NrB (x : Nr) : Prop where
  at_ : x.at_.size ≤ 140737488355328
  tg : x.target.size ≤ 140737488355328
  ch : x.chunks.length ≤ 140737488355328
  cs : ∀ c ∈ x.chunks, c.size ≤ 140737488355328
  sz : -9223372036854775808 ≤ x.size ∧ x.size ≤ 9223372036854775807
  md : -9223372036854775808 ≤ x.mode ∧ x.mode ≤ 9223372036854775807
  tm : -9223372036854775808 ≤ x.time ∧ x.time ≤ 9223372036854775807
theorem kindR_no {x : Nr} (h : kindOk x = false) : kindR x = 0 := by unfold kindR; rw [h]; rfl
theorem kindR_ok {x : Nr} (h : kindOk x = true) : kindR x = x.kind ∧ 1 ≤ x.kind ∧ x.kind ≤ 3 := by
  refine ⟨by unfold kindR; rw [if_pos h], ?_⟩
  unfold kindOk at h
  simpa using h
def mtOk (x : Nr) : Bool := decide (0 ≤ x.mode) && decide (x.mode ≤ 511) && decide (0 ≤ x.time) && decide (x.time ≤ 253402300799)
theorem form_mt {x : Nr} (h : mtOk x = false) : formOk x = false := by
  unfold mtOk at h
  unfold formOk
  rw [h]
  rfl
theorem form_one {x : Nr} (h : mtOk x = true) (hk : x.kind = 1) : formOk x = true := by
  unfold mtOk at h
  unfold formOk
  rw [h, hk]
  rfl
theorem form_three {x : Nr} (h : mtOk x = true) (hk : x.kind = 3) : formOk x = tgt x.target := by
  unfold mtOk at h
  unfold formOk
  rw [h, hk]
  simp
theorem form_two {x : Nr} (h : mtOk x = true) (hk : x.kind = 2) : formOk x = fileOk x := by
  unfold mtOk at h
  unfold formOk
  rw [h, hk]
  simp
theorem fit_path {x : Nr} (hk : kindOk x = true) (h : isPath x.at_ = false) : fitN x = 11 := by unfold fitN; rw [hk, if_neg (by simp), if_pos h]
theorem fit_form {x : Nr} (hk : kindOk x = true) (hp : isPath x.at_ = true) (h : formOk x = false) : fitN x = 4 := by unfold fitN; rw [hk, if_neg (by simp), hp, if_neg (by simp), if_pos h]
theorem fit_ok {x : Nr} (hk : kindOk x = true) (hp : isPath x.at_ = true) (h : formOk x = true) : fitN x = 0 := by unfold fitN; rw [hk, if_neg (by simp), hp, if_neg (by simp), h, if_neg (by simp)]
theorem mt_cases (x : Nr) : (mtOk x = true ∧ ¬ x.mode < 0 ∧ ¬ 511 < x.mode ∧ ¬ x.time < 0 ∧ ¬ 253402300799 < x.time) ∨ (mtOk x = false ∧ (x.mode < 0 ∨ (¬ x.mode < 0 ∧ 511 < x.mode) ∨ (¬ x.mode < 0 ∧ ¬ 511 < x.mode ∧ x.time < 0) ∨ (¬ x.mode < 0 ∧ ¬ 511 < x.mode ∧ ¬ x.time < 0 ∧ 253402300799 < x.time))) := by
  cases h : mtOk x with
  | true =>
    unfold mtOk at h
    simp only [Bool.and_eq_true, decide_eq_true_eq] at h
    exact .inl ⟨rfl, by omega, by omega, by omega, by omega⟩
  | false =>
    refine .inr ⟨rfl, ?_⟩
    unfold mtOk at h
    simp only [Bool.and_eq_false_iff, decide_eq_false_iff_not] at h
    omega
theorem file_cases (x : Nr) : (fileOk x = false ∧ (x.size < 0 ∨ (¬ x.size < 0 ∧ 32768 < x.size) ∨ (¬ x.size < 0 ∧ ¬ 32768 < x.size ∧ x.size < (x.chunks.length : Int)) ∨ (¬ x.size < 0 ∧ ¬ 32768 < x.size ∧ ¬ x.size < (x.chunks.length : Int) ∧ (x.size == 0) = false ∧ ((x.chunks.length : Int) == 0) = true))) ∨
    (¬ x.size < 0 ∧ ¬ 32768 < x.size ∧ ¬ x.size < (x.chunks.length : Int) ∧ (x.size == 0) = ((x.chunks.length : Int) == 0) ∧ fileOk x = x.chunks.all fun c => decide (c.size = 32)) := by
  by_cases h1 : x.size < 0
  · exact .inl ⟨by unfold fileOk; simp only [decide_eq_false (show ¬ 0 ≤ x.size by omega), Bool.false_and], .inl h1⟩
  by_cases h2 : 32768 < x.size
  · exact .inl ⟨by unfold fileOk; simp only [decide_eq_false (show ¬ x.size ≤ 32768 by omega), Bool.and_false, Bool.false_and], .inr (.inl ⟨h1, h2⟩)⟩
  by_cases h3 : x.size < (x.chunks.length : Int)
  · exact .inl ⟨by unfold fileOk; simp only [decide_eq_false (show ¬ (x.chunks.length : Int) ≤ x.size by omega), Bool.and_false, Bool.false_and], .inr (.inr (.inl ⟨h1, h2, h3⟩))⟩
  by_cases h4 : 0 < x.size ∧ x.chunks.length = 0
  · refine .inl ⟨by unfold fileOk; simp only [decide_eq_true h4.1, decide_eq_true h4.2, Bool.and_true, Bool.not_true, Bool.and_false, Bool.false_and], .inr (.inr (.inr ⟨h1, h2, h3, ?_, ?_⟩))⟩
    · rw [beq_eq_false_iff_ne]; omega
    · rw [beq_iff_eq]; omega
  · refine .inr ⟨h1, h2, h3, ?_, ?_⟩
    · rw [Bool.eq_iff_iff, beq_iff_eq, beq_iff_eq]; omega
    · unfold fileOk
      rw [decide_eq_true (show 0 ≤ x.size by omega), decide_eq_true (show x.size ≤ 32768 by omega), decide_eq_true (show (x.chunks.length : Int) ≤ x.size by omega)]
      have : (!(decide (0 < x.size) && decide (x.chunks.length = 0))) = true := by
        rw [Bool.not_eq_true', Bool.and_eq_false_iff, decide_eq_false_iff_not, decide_eq_false_iff_not]
        omega
      rw [this]
      rfl
theorem all_snoc {p : ByteArray → Bool} {l : List ByteArray} {k : Nat} (h : k < l.length) (hp : (l.take k).all p = true) (hc : p l[k] = true) : (l.take (k + 1)).all p = true := by
  rw [List.take_succ_eq_append_getElem h, List.all_append, hp]
  simp [hc]
theorem all_no {p : ByteArray → Bool} {l : List ByteArray} {k : Nat} (h : k < l.length) (hc : p l[k] = false) : l.all p = false := by
  rw [List.all_eq_false]
  exact ⟨l[k], List.getElem_mem h, by rw [hc]; simp⟩
set_option maxRecDepth 100000 in
set_option maxHeartbeats 3200000 in
theorem fit_any (v : Value) (x : Nr) (w : World) (he : Env w) (h : NodeIs w v x) (hb : NrB x) : Calls Tryd.prog 87 #[v] w fun e w' => e = .returned (.int .i64 (fitN x)) ∧ Below w.heap.size w w' := by
  have HK := Lib.hid (kind_any v x w h)
  cases hk : kindOk x with
  | false =>
    rw [kindR_no hk] at HK
    have HF := Lib.hid (show fitN x = 12 by unfold fitN; rw [if_pos hk])
    clear hk h hb he
    go_enter Tryd.func87, Tryd.ntmps87
    go_wp2_with fail
    refine HK.out.mono ?_
    rintro e w1 ⟨rfl, rfl⟩
    go_wp2
    go_ret
    exact ⟨ret_int (by rw [HF.out]; rfl), Below.refl _ _⟩
  | true =>
    obtain ⟨hk1, hk2, hk3⟩ := kindR_ok hk
    rw [hk1] at HK
    have m1 := mFol
    have m2 := mPla
    have m3 := mSym
    have hkq : (x.kind == 0) = false := by simp; omega
    have HFA := Lib.hid (facts_any v x w h hk)
    have HE := Lib.hid fun W (hb : Below w.heap.size w W) => he.below hb
    have HIS := Lib.hid fun W (h : Env W) => pis_big x.at_ W h hb.at_
    have FP := Lib.hid (fit_path hk)
    have FF := Lib.hid (fit_form hk)
    have FO := Lib.hid (fit_ok hk)
    have MT := Lib.hid (mt_cases x)
    have hbt := hb.tg
    have hbc := hb.ch
    have HBC := Lib.hid hb
    have hkk := hk
    clear hk hk1 hk2 hk3 he hb
    rcases h with ⟨h, rfl⟩ | ⟨h, A, c, rfl, hst, _⟩ | ⟨h, rfl⟩ | ⟨h, _⟩
    · have FM := Lib.hid fun h1 => form_mt (x := x) h1
      have F1 := Lib.hid fun h1 => form_one (x := x) h1 h
      have ts := taFS
      have HNP := Lib.hid fun W => asPlain_no (folV x.at_ x.mode x.time) (.inl ⟨_, rfl⟩) W
      unfold folV at *
      unfold zSym at ts
      generalize isPath x.at_ = ip at *
      go_enter Tryd.func87, Tryd.ntmps87
      go_wp2_with fail
      refine HK.out.mono ?_
      rintro e w1 ⟨rfl, rfl⟩
      go_wp2_with fail
      refine HFA.out.mono ?_
      rintro e w1 ⟨rfl, hb1⟩
      have HB1 := Lib.hid hb1
      clear hb1
      go_wp2_with fail
      refine (pathF _ _ _ _).mono ?_
      rintro e w2 ⟨rfl, hb2⟩
      have HB2 := Lib.hid (HB1.out.trans (hb2.mono HB1.out.size))
      clear hb2
      go_wp2_with fail
      refine (HIS.out _ (HE.out _ HB2.out)).mono ?_
      rintro e w3 ⟨rfl, hb3⟩
      have HB3 := Lib.hid (HB2.out.trans (hb3.mono HB2.out.size))
      clear hb3
      cases ip with
      | false =>
        go_wp2
        go_ret
        exact ⟨ret_int (by rw [FP.out (by trivial)]; rfl), HB3.out⟩
      | true =>
        rcases MT.out with ⟨hm, q1, q2, q3, q4⟩ | ⟨hm, hq⟩
        · have HM := Lib.hid (FO.out rfl (F1.out hm))
          clear hm
          go_wp2_with fail
          refine (HNP.out _).mono ?_
          rintro e w4 ⟨rfl, hb4⟩
          have HB4 := Lib.hid (((HB3.out.alloc HB3.out.size _).trans (hb4.mono (HB3.out.alloc HB3.out.size _).size)))
          clear hb4
          go_wp2
          go_ret
          exact ⟨ret_int (by rw [HM.out]; rfl), HB4.out.alloc HB4.out.size _⟩
        · have HM := Lib.hid (FF.out rfl (FM.out hm))
          clear hm
          rcases hq with q1 | ⟨q1, q2⟩ | ⟨q1, q2, q3⟩ | ⟨q1, q2, q3, q4⟩
          all_goals
            go_wp2
            go_ret
            exact ⟨ret_int (by rw [HM.out]; rfl), HB3.out⟩
    · have FM := Lib.hid fun h1 => form_mt (x := x) h1
      have F1 := Lib.hid fun h1 => form_two (x := x) h1 h
      have FC := Lib.hid (file_cases x)
      have ts := taPS
      have HPL := Lib.hid fun W => asPlain_pl x.at_ x.mode x.time x.size A x.chunks.length c W
      have HST := Lib.hid hst
      clear hst
      unfold plaV at *
      unfold zSym at ts
      generalize isPath x.at_ = ip at *
      go_enter Tryd.func87, Tryd.ntmps87
      go_wp2_with fail
      refine HK.out.mono ?_
      rintro e w1 ⟨rfl, rfl⟩
      go_wp2_with fail
      refine HFA.out.mono ?_
      rintro e w1 ⟨rfl, hb1⟩
      have HB1 := Lib.hid hb1
      clear hb1
      go_wp2_with fail
      refine (pathP _ _ _ _ _ _ _ _).mono ?_
      rintro e w2 ⟨rfl, hb2⟩
      have HB2 := Lib.hid (HB1.out.trans (hb2.mono HB1.out.size))
      clear hb2
      go_wp2_with fail
      refine (HIS.out _ (HE.out _ HB2.out)).mono ?_
      rintro e w3 ⟨rfl, hb3⟩
      have HB3 := Lib.hid (HB2.out.trans (hb3.mono HB2.out.size))
      clear hb3
      cases ip with
      | false =>
        go_wp2
        go_ret
        exact ⟨ret_int (by rw [FP.out (by trivial)]; rfl), HB3.out⟩
      | true =>
        rcases MT.out with ⟨hm, q1, q2, q3, q4⟩ | ⟨hm, hq⟩
        · have HF1 := Lib.hid (F1.out hm)
          clear hm
          rcases FC.out with ⟨hf, hq⟩ | ⟨z1, z2, z3, z4, hf⟩
          · have HM := Lib.hid (FF.out rfl (HF1.out.trans hf))
            clear hf
            rcases hq with z1 | ⟨z1, z2⟩ | ⟨z1, z2, z3⟩ | ⟨z1, z2, z3, z4, z5⟩
            all_goals
              go_wp2_with fail
              refine (HPL.out _).mono ?_
              rintro e w4 ⟨rfl, hb4⟩
              have hb0 := HB3.out.alloc HB3.out.size (.cells #[.string ⟨#[]⟩, .int .i64 0, .int .i64 0, .string ⟨#[]⟩] 103)
              have HB4 := Lib.hid (hb0.trans (hb4.mono hb0.size))
              clear hb0 hb4
              go_wp2
              go_ret
              exact ⟨ret_int (by rw [HM.out]; rfl), HB4.out.alloc HB4.out.size _⟩
          · have HMF := Lib.hid fun h => FF.out rfl (HF1.out.trans (hf.trans h))
            have HMO := Lib.hid fun h => FO.out rfl (HF1.out.trans (hf.trans h))
            clear hf
            generalize hzq : ((x.chunks.length : Int) == 0) = zq at *
            go_wp2_with fail
            refine (HPL.out _).mono ?_
            rintro e w4 ⟨rfl, hb4⟩
            have hb0 := HB3.out.alloc HB3.out.size (.cells #[.string ⟨#[]⟩, .int .i64 0, .int .i64 0, .string ⟨#[]⟩] 103)
            have HB4 := Lib.hid ((hb0.trans (hb4.mono hb0.size)).alloc (hb0.trans (hb4.mono hb0.size)).size (.cells #[.string x.at_, .int .i64 x.mode, .int .i64 x.time, .int .i64 x.size, .slice A x.chunks.length c] 75))
            have HST4 := Lib.hid (HST.out.below HB4.out)
            clear hb0 hb4
            have hzz : (zq != zq) = false := by cases zq <;> rfl
            go_wp2
            go_loop [10, 84] (fun _ i => ∃ k : Nat, k ≤ x.chunks.length ∧ i = .int .i64 k ∧ ((x.chunks.take k).all fun c => decide (c.size = 32)) = true) (fun _ i => x.chunks.length - (intOf i).toNat)
            case atStart => exact ⟨0, Nat.zero_le _, rfl, rfl⟩
            case round =>
              obtain ⟨k, hk, rfl, hall⟩ := hrel
              have Hall := Lib.hid hall
              clear hall
              by_cases hlt : k < x.chunks.length
              · obtain ⟨bk, ok, rfl, hbk, hcc⟩ := HST4.out (by omega)
                have hck := hcc k x.chunks[k] (List.getElem?_eq_getElem hlt)
                have Hf := Lib.hid fun (h : decide (x.chunks[k].size = 32) = false) => HMF.out (all_no hlt h)
                have Hs := Lib.hid fun (h : decide (x.chunks[k].size = 32) = true) => all_snoc (p := fun c => decide (c.size = 32)) hlt Hall.out h
                clear hcc
                generalize x.chunks[k] = ch at *
                by_cases h32 : ch.size = 32
                · have hne : ((ch.size : Int) != 32) = false := by rw [h32]; rfl
                  go_wp2
                  go_round
                  case rel => exact ⟨k + 1, by omega, by go_num, Hs.out (decide_eq_true h32)⟩
                  case measure => simp [intOf]; omega
                · have hne : ((ch.size : Int) != 32) = true := by rw [bne_iff_ne]; omega
                  have HM := Lib.hid (Hf.out (decide_eq_false h32))
                  go_wp2
                  go_ret
                  exact ⟨ret_int (by rw [HM.out]; rfl), HB4.out⟩
              · obtain rfl : k = x.chunks.length := by omega
                have HM := Lib.hid (HMO.out (by have := Hall.out; rwa [List.take_length] at this))
                go_wp2
                go_ret
                exact ⟨ret_int (by rw [HM.out]; rfl), HB4.out⟩
        · have HM := Lib.hid (FF.out rfl (FM.out hm))
          clear hm
          rcases hq with q1 | ⟨q1, q2⟩ | ⟨q1, q2, q3⟩ | ⟨q1, q2, q3, q4⟩
          all_goals
            go_wp2
            go_ret
            exact ⟨ret_int (by rw [HM.out]; rfl), HB3.out⟩
    · have FM := Lib.hid fun h1 => form_mt (x := x) h1
      have F1 := Lib.hid fun h1 => form_three (x := x) h1 h
      have ts := taSS
      have HNP := Lib.hid fun W => asPlain_no (symV x.at_ x.mode x.time x.target) (.inr (.inl ⟨_, rfl⟩)) W
      have HTG := Lib.hid fun W => target_any x.target W hbt
      unfold symV at *
      generalize isPath x.at_ = ip at *
      generalize tgt x.target = tg at *
      go_enter Tryd.func87, Tryd.ntmps87
      go_wp2_with fail
      refine HK.out.mono ?_
      rintro e w1 ⟨rfl, rfl⟩
      go_wp2_with fail
      refine HFA.out.mono ?_
      rintro e w1 ⟨rfl, hb1⟩
      have HB1 := Lib.hid hb1
      clear hb1
      go_wp2_with fail
      refine (pathS _ _ _ _ _).mono ?_
      rintro e w2 ⟨rfl, hb2⟩
      have HB2 := Lib.hid (HB1.out.trans (hb2.mono HB1.out.size))
      clear hb2
      go_wp2_with fail
      refine (HIS.out _ (HE.out _ HB2.out)).mono ?_
      rintro e w3 ⟨rfl, hb3⟩
      have HB3 := Lib.hid (HB2.out.trans (hb3.mono HB2.out.size))
      clear hb3
      cases ip with
      | false =>
        go_wp2
        go_ret
        exact ⟨ret_int (by rw [FP.out (by trivial)]; rfl), HB3.out⟩
      | true =>
        rcases MT.out with ⟨hm, q1, q2, q3, q4⟩ | ⟨hm, hq⟩
        · have HF1 := Lib.hid (F1.out hm)
          clear hm
          go_wp2_with fail
          refine (HTG.out _).mono ?_
          rintro e w4 ⟨rfl, hb4⟩
          have hb0 := HB3.out.alloc HB3.out.size (.cells #[.string x.at_, .int .i64 x.mode, .int .i64 x.time, .string x.target] 103)
          have HB4 := Lib.hid (hb0.trans (hb4.mono hb0.size))
          clear hb0 hb4
          cases tg with
          | false =>
            have HM := Lib.hid (FF.out (by trivial) HF1.out)
            go_wp2
            go_ret
            exact ⟨ret_int (by rw [HM.out]; rfl), HB4.out⟩
          | true =>
            have HM := Lib.hid (FO.out (by trivial) HF1.out)
            go_wp2_with fail
            refine (HNP.out _).mono ?_
            rintro e w5 ⟨rfl, hb5⟩
            have HB5 := Lib.hid (HB4.out.trans (hb5.mono HB4.out.size))
            clear hb5
            go_wp2
            go_ret
            exact ⟨ret_int (by rw [HM.out]; rfl), HB5.out.alloc HB5.out.size _⟩
        · have HM := Lib.hid (FF.out rfl (FM.out hm))
          clear hm
          rcases hq with q1 | ⟨q1, q2⟩ | ⟨q1, q2, q3⟩ | ⟨q1, q2, q3, q4⟩
          all_goals
            go_wp2
            go_ret
            exact ⟨ret_int (by rw [HM.out]; rfl), HB3.out⟩
    · rw [hkk] at h; cases h
end Go.Proofs.YtaoejgnfoecpfaaDoor
