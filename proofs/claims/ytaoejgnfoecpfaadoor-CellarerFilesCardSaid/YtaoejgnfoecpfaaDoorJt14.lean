/- A tree's nodes: fit. A tree's nodes: Check. -/
import Derived.Test.YtaoejgnfoecpfaaDoorJt11
import Derived.Test.YtaoejgnfoecpfaaDoorJt12
import Derived.Test.YtaoejgnfoecpfaaDoorJt6
import Derived.Deep.DeepCutAuto
namespace Go.Proofs.YtaoejgnfoecpfaaDoor
set_option linter.unusedVariables false
set_option linter.unusedSimpArgs false
set_option linter.unusedSectionVars false
open Go.RowKit

/-- the bounds of what came in -/
structure NrB (x : Nr) : Prop where
  at_ : x.at_.size ≤ 140737488355328
  tg : x.target.size ≤ 140737488355328
  ch : x.chunks.length ≤ 140737488355328
  cs : ∀ c ∈ x.chunks, c.size ≤ 140737488355328
  sz : -9223372036854775808 ≤ x.size ∧ x.size ≤ 9223372036854775807
  md : -9223372036854775808 ≤ x.mode ∧ x.mode ≤ 9223372036854775807
  tm : -9223372036854775808 ≤ x.time ∧ x.time ≤ 9223372036854775807
theorem kindR_no {x : Nr} (h : kindOk x = false) : kindR x = 0 := by unfold kindR; rw [h]; rfl
theorem kindR_ok {x : Nr} (h : kindOk x = true) : kindR x = x.kind ∧ 1 ≤ x.kind ∧ x.kind ≤ 3 := by
  refine ⟨by unfold kindR; rw [if_pos h], ?_⟩
  unfold kindOk at h
  simpa using h
def mtOk (x : Nr) : Bool := decide (0 ≤ x.mode) && decide (x.mode ≤ 511) && decide (0 ≤ x.time) && decide (x.time ≤ 253402300799)
theorem form_mt {x : Nr} (h : mtOk x = false) : formOk x = false := by
  unfold mtOk at h
  unfold formOk
  rw [h]
  rfl
theorem form_one {x : Nr} (h : mtOk x = true) (hk : x.kind = 1) : formOk x = true := by
  unfold mtOk at h
  unfold formOk
  rw [h, hk]
  rfl
theorem form_three {x : Nr} (h : mtOk x = true) (hk : x.kind = 3) : formOk x = tgt x.target := by
  unfold mtOk at h
  unfold formOk
  rw [h, hk]
  simp
theorem form_two {x : Nr} (h : mtOk x = true) (hk : x.kind = 2) : formOk x = fileOk x := by
  unfold mtOk at h
  unfold formOk
  rw [h, hk]
  simp
theorem fit_path {x : Nr} (hk : kindOk x = true) (h : isPath x.at_ = false) : fitN x = 11 := by unfold fitN; rw [hk, if_neg (by simp), if_pos h]
theorem fit_form {x : Nr} (hk : kindOk x = true) (hp : isPath x.at_ = true) (h : formOk x = false) : fitN x = 4 := by unfold fitN; rw [hk, if_neg (by simp), hp, if_neg (by simp), if_pos h]
theorem fit_ok {x : Nr} (hk : kindOk x = true) (hp : isPath x.at_ = true) (h : formOk x = true) : fitN x = 0 := by unfold fitN; rw [hk, if_neg (by simp), hp, if_neg (by simp), h, if_neg (by simp)]
theorem mt_cases (x : Nr) : (mtOk x = true ∧ ¬ x.mode < 0 ∧ ¬ 511 < x.mode ∧ ¬ x.time < 0 ∧ ¬ 253402300799 < x.time) ∨ (mtOk x = false ∧ (x.mode < 0 ∨ (¬ x.mode < 0 ∧ 511 < x.mode) ∨ (¬ x.mode < 0 ∧ ¬ 511 < x.mode ∧ x.time < 0) ∨ (¬ x.mode < 0 ∧ ¬ 511 < x.mode ∧ ¬ x.time < 0 ∧ 253402300799 < x.time))) := by
  cases h : mtOk x with
  | true =>
    unfold mtOk at h
    simp only [Bool.and_eq_true, decide_eq_true_eq] at h
    exact .inl ⟨rfl, by omega, by omega, by omega, by omega⟩
  | false =>
    refine .inr ⟨rfl, ?_⟩
    unfold mtOk at h
    simp only [Bool.and_eq_false_iff, decide_eq_false_iff_not] at h
    omega
theorem file_cases (x : Nr) : (fileOk x = false ∧ (x.size < 0 ∨ (¬ x.size < 0 ∧ 32768 < x.size) ∨ (¬ x.size < 0 ∧ ¬ 32768 < x.size ∧ x.size < (x.chunks.length : Int)) ∨ (¬ x.size < 0 ∧ ¬ 32768 < x.size ∧ ¬ x.size < (x.chunks.length : Int) ∧ (x.size == 0) = false ∧ ((x.chunks.length : Int) == 0) = true))) ∨
    (¬ x.size < 0 ∧ ¬ 32768 < x.size ∧ ¬ x.size < (x.chunks.length : Int) ∧ (x.size == 0) = ((x.chunks.length : Int) == 0) ∧ fileOk x = x.chunks.all fun c => decide (c.size = 32)) := by
  by_cases h1 : x.size < 0
  · exact .inl ⟨by unfold fileOk; simp only [decide_eq_false (show ¬ 0 ≤ x.size by omega), Bool.false_and], .inl h1⟩
  by_cases h2 : 32768 < x.size
  · exact .inl ⟨by unfold fileOk; simp only [decide_eq_false (show ¬ x.size ≤ 32768 by omega), Bool.and_false, Bool.false_and], .inr (.inl ⟨h1, h2⟩)⟩
  by_cases h3 : x.size < (x.chunks.length : Int)
  · exact .inl ⟨by unfold fileOk; simp only [decide_eq_false (show ¬ (x.chunks.length : Int) ≤ x.size by omega), Bool.and_false, Bool.false_and], .inr (.inr (.inl ⟨h1, h2, h3⟩))⟩
  by_cases h4 : 0 < x.size ∧ x.chunks.length = 0
  · refine .inl ⟨by unfold fileOk; simp only [decide_eq_true h4.1, decide_eq_true h4.2, Bool.and_true, Bool.not_true, Bool.and_false, Bool.false_and], .inr (.inr (.inr ⟨h1, h2, h3, ?_, ?_⟩))⟩
    · rw [beq_eq_false_iff_ne]; omega
    · rw [beq_iff_eq]; omega
  · refine .inr ⟨h1, h2, h3, ?_, ?_⟩
    · rw [Bool.eq_iff_iff, beq_iff_eq, beq_iff_eq]; omega
    · unfold fileOk
      rw [decide_eq_true (show 0 ≤ x.size by omega), decide_eq_true (show x.size ≤ 32768 by omega), decide_eq_true (show (x.chunks.length : Int) ≤ x.size by omega)]
      have : (!(decide (0 < x.size) && decide (x.chunks.length = 0))) = true := by
        rw [Bool.not_eq_true', Bool.and_eq_false_iff, decide_eq_false_iff_not, decide_eq_false_iff_not]
        omega
      rw [this]
      rfl
theorem all_snoc {p : ByteArray → Bool} {l : List ByteArray} {k : Nat} (h : k < l.length) (hp : (l.take k).all p = true) (hc : p l[k] = true) : (l.take (k + 1)).all p = true := by
  rw [List.take_succ_eq_append_getElem h, List.all_append, hp]
  simp [hc]
theorem all_no {p : ByteArray → Bool} {l : List ByteArray} {k : Nat} (h : k < l.length) (hc : p l[k] = false) : l.all p = false := by
  rw [List.all_eq_false]
  exact ⟨l[k], List.getElem_mem h, by rw [hc]; simp⟩
set_option maxRecDepth 100000 in
set_option maxHeartbeats 3200000 in
theorem fit_any (v : Value) (x : Nr) (w : World) (he : Env w) (h : NodeIs w v x) (hb : NrB x) : Calls Tryd.prog 87 #[v] w fun e w' => e = .returned (.int .i64 (fitN x)) ∧ Below w.heap.size w w' := by
  have HK := Lib.hid (kind_any v x w h)
  cases hk : kindOk x with
  | false =>
    rw [kindR_no hk] at HK
    have HF := Lib.hid (show fitN x = 12 by unfold fitN; rw [if_pos hk])
    clear hk h hb he
    go_enter Tryd.func87, Tryd.ntmps87
    go_wp2_with fail
    refine HK.out.mono ?_
    rintro e w1 ⟨rfl, rfl⟩
    go_wp2
    go_ret
    exact ⟨ret_int (by rw [HF.out]; rfl), Below.refl _ _⟩
  | true =>
    obtain ⟨hk1, hk2, hk3⟩ := kindR_ok hk
    rw [hk1] at HK
    have m1 := mFol
    have m2 := mPla
    have m3 := mSym
    have hkq : (x.kind == 0) = false := by simp; omega
    have HFA := Lib.hid (facts_any v x w h hk)
    have HE := Lib.hid fun W (hb : Below w.heap.size w W) => he.below hb
    have HIS := Lib.hid fun W (h : Env W) => pis_big x.at_ W h hb.at_
    have FP := Lib.hid (fit_path hk)
    have FF := Lib.hid (fit_form hk)
    have FO := Lib.hid (fit_ok hk)
    have MT := Lib.hid (mt_cases x)
    have hbt := hb.tg
    have hbc := hb.ch
    have HBC := Lib.hid hb
    have hkk := hk
    clear hk hk1 hk2 hk3 he hb
    rcases h with ⟨h, rfl⟩ | ⟨h, A, c, rfl, hst, _⟩ | ⟨h, rfl⟩ | ⟨h, _⟩
    · have FM := Lib.hid fun h1 => form_mt (x := x) h1
      have F1 := Lib.hid fun h1 => form_one (x := x) h1 h
      have ts := taFS
      have HNP := Lib.hid fun W => asPlain_no (folV x.at_ x.mode x.time) (.inl ⟨_, rfl⟩) W
      unfold folV at *
      unfold zSym at ts
      generalize isPath x.at_ = ip at *
      go_enter Tryd.func87, Tryd.ntmps87
      go_wp2_with fail
      refine HK.out.mono ?_
      rintro e w1 ⟨rfl, rfl⟩
      go_wp2_with fail
      refine HFA.out.mono ?_
      rintro e w1 ⟨rfl, hb1⟩
      have HB1 := Lib.hid hb1
      clear hb1
      go_wp2_with fail
      refine (pathF _ _ _ _).mono ?_
      rintro e w2 ⟨rfl, hb2⟩
      have HB2 := Lib.hid (HB1.out.trans (hb2.mono HB1.out.size))
      clear hb2
      go_wp2_with fail
      refine (HIS.out _ (HE.out _ HB2.out)).mono ?_
      rintro e w3 ⟨rfl, hb3⟩
      have HB3 := Lib.hid (HB2.out.trans (hb3.mono HB2.out.size))
      clear hb3
      cases ip with
      | false =>
        go_wp2
        go_ret
        exact ⟨ret_int (by rw [FP.out (by trivial)]; rfl), HB3.out⟩
      | true =>
        rcases MT.out with ⟨hm, q1, q2, q3, q4⟩ | ⟨hm, hq⟩
        · have HM := Lib.hid (FO.out rfl (F1.out hm))
          clear hm
          go_wp2_with fail
          refine (HNP.out _).mono ?_
          rintro e w4 ⟨rfl, hb4⟩
          have HB4 := Lib.hid (((HB3.out.alloc HB3.out.size _).trans (hb4.mono (HB3.out.alloc HB3.out.size _).size)))
          clear hb4
          go_wp2
          go_ret
          exact ⟨ret_int (by rw [HM.out]; rfl), HB4.out.alloc HB4.out.size _⟩
        · have HM := Lib.hid (FF.out rfl (FM.out hm))
          clear hm
          rcases hq with q1 | ⟨q1, q2⟩ | ⟨q1, q2, q3⟩ | ⟨q1, q2, q3, q4⟩
          all_goals
            go_wp2
            go_ret
            exact ⟨ret_int (by rw [HM.out]; rfl), HB3.out⟩
    · have FM := Lib.hid fun h1 => form_mt (x := x) h1
      have F1 := Lib.hid fun h1 => form_two (x := x) h1 h
      have FC := Lib.hid (file_cases x)
      have ts := taPS
      have HPL := Lib.hid fun W => asPlain_pl x.at_ x.mode x.time x.size A x.chunks.length c W
      have HST := Lib.hid hst
      clear hst
      unfold plaV at *
      unfold zSym at ts
      generalize isPath x.at_ = ip at *
      go_enter Tryd.func87, Tryd.ntmps87
      go_wp2_with fail
      refine HK.out.mono ?_
      rintro e w1 ⟨rfl, rfl⟩
      go_wp2_with fail
      refine HFA.out.mono ?_
      rintro e w1 ⟨rfl, hb1⟩
      have HB1 := Lib.hid hb1
      clear hb1
      go_wp2_with fail
      refine (pathP _ _ _ _ _ _ _ _).mono ?_
      rintro e w2 ⟨rfl, hb2⟩
      have HB2 := Lib.hid (HB1.out.trans (hb2.mono HB1.out.size))
      clear hb2
      go_wp2_with fail
      refine (HIS.out _ (HE.out _ HB2.out)).mono ?_
      rintro e w3 ⟨rfl, hb3⟩
      have HB3 := Lib.hid (HB2.out.trans (hb3.mono HB2.out.size))
      clear hb3
      cases ip with
      | false =>
        go_wp2
        go_ret
        exact ⟨ret_int (by rw [FP.out (by trivial)]; rfl), HB3.out⟩
      | true =>
        rcases MT.out with ⟨hm, q1, q2, q3, q4⟩ | ⟨hm, hq⟩
        · have HF1 := Lib.hid (F1.out hm)
          clear hm
          rcases FC.out with ⟨hf, hq⟩ | ⟨z1, z2, z3, z4, hf⟩
          · have HM := Lib.hid (FF.out rfl (HF1.out.trans hf))
            clear hf
            rcases hq with z1 | ⟨z1, z2⟩ | ⟨z1, z2, z3⟩ | ⟨z1, z2, z3, z4, z5⟩
            all_goals
              go_wp2_with fail
              refine (HPL.out _).mono ?_
              rintro e w4 ⟨rfl, hb4⟩
              have hb0 := HB3.out.alloc HB3.out.size (.cells #[.string ⟨#[]⟩, .int .i64 0, .int .i64 0, .string ⟨#[]⟩] 103)
              have HB4 := Lib.hid (hb0.trans (hb4.mono hb0.size))
              clear hb0 hb4
              go_wp2
              go_ret
              exact ⟨ret_int (by rw [HM.out]; rfl), HB4.out.alloc HB4.out.size _⟩
          · have HMF := Lib.hid fun h => FF.out rfl (HF1.out.trans (hf.trans h))
            have HMO := Lib.hid fun h => FO.out rfl (HF1.out.trans (hf.trans h))
            clear hf
            generalize hzq : ((x.chunks.length : Int) == 0) = zq at *
            go_wp2_with fail
            refine (HPL.out _).mono ?_
            rintro e w4 ⟨rfl, hb4⟩
            have hb0 := HB3.out.alloc HB3.out.size (.cells #[.string ⟨#[]⟩, .int .i64 0, .int .i64 0, .string ⟨#[]⟩] 103)
            have HB4 := Lib.hid ((hb0.trans (hb4.mono hb0.size)).alloc (hb0.trans (hb4.mono hb0.size)).size (.cells #[.string x.at_, .int .i64 x.mode, .int .i64 x.time, .int .i64 x.size, .slice A x.chunks.length c] 75))
            have HST4 := Lib.hid (HST.out.below HB4.out)
            clear hb0 hb4
            have hzz : (zq != zq) = false := by cases zq <;> rfl
            go_wp2
            go_loop [10, 84] (fun _ i => ∃ k : Nat, k ≤ x.chunks.length ∧ i = .int .i64 k ∧ ((x.chunks.take k).all fun c => decide (c.size = 32)) = true) (fun _ i => x.chunks.length - (intOf i).toNat)
            case atStart => exact ⟨0, Nat.zero_le _, rfl, rfl⟩
            case round =>
              obtain ⟨k, hk, rfl, hall⟩ := hrel
              have Hall := Lib.hid hall
              clear hall
              by_cases hlt : k < x.chunks.length
              · obtain ⟨bk, ok, rfl, hbk, hcc⟩ := HST4.out (by omega)
                have hck := hcc k x.chunks[k] (List.getElem?_eq_getElem hlt)
                have Hf := Lib.hid fun (h : decide (x.chunks[k].size = 32) = false) => HMF.out (all_no hlt h)
                have Hs := Lib.hid fun (h : decide (x.chunks[k].size = 32) = true) => all_snoc (p := fun c => decide (c.size = 32)) hlt Hall.out h
                clear hcc
                generalize x.chunks[k] = ch at *
                by_cases h32 : ch.size = 32
                · have hne : ((ch.size : Int) != 32) = false := by rw [h32]; rfl
                  go_wp2
                  go_round
                  case rel => exact ⟨k + 1, by omega, by go_num, Hs.out (decide_eq_true h32)⟩
                  case measure => simp [intOf]; omega
                · have hne : ((ch.size : Int) != 32) = true := by rw [bne_iff_ne]; omega
                  have HM := Lib.hid (Hf.out (decide_eq_false h32))
                  go_wp2
                  go_ret
                  exact ⟨ret_int (by rw [HM.out]; rfl), HB4.out⟩
              · obtain rfl : k = x.chunks.length := by omega
                have HM := Lib.hid (HMO.out (by have := Hall.out; rwa [List.take_length] at this))
                go_wp2
                go_ret
                exact ⟨ret_int (by rw [HM.out]; rfl), HB4.out⟩
        · have HM := Lib.hid (FF.out rfl (FM.out hm))
          clear hm
          rcases hq with q1 | ⟨q1, q2⟩ | ⟨q1, q2, q3⟩ | ⟨q1, q2, q3, q4⟩
          all_goals
            go_wp2
            go_ret
            exact ⟨ret_int (by rw [HM.out]; rfl), HB3.out⟩
    · have FM := Lib.hid fun h1 => form_mt (x := x) h1
      have F1 := Lib.hid fun h1 => form_three (x := x) h1 h
      have ts := taSS
      have HNP := Lib.hid fun W => asPlain_no (symV x.at_ x.mode x.time x.target) (.inr (.inl ⟨_, rfl⟩)) W
      have HTG := Lib.hid fun W => target_any x.target W hbt
      unfold symV at *
      generalize isPath x.at_ = ip at *
      generalize tgt x.target = tg at *
      go_enter Tryd.func87, Tryd.ntmps87
      go_wp2_with fail
      refine HK.out.mono ?_
      rintro e w1 ⟨rfl, rfl⟩
      go_wp2_with fail
      refine HFA.out.mono ?_
      rintro e w1 ⟨rfl, hb1⟩
      have HB1 := Lib.hid hb1
      clear hb1
      go_wp2_with fail
      refine (pathS _ _ _ _ _).mono ?_
      rintro e w2 ⟨rfl, hb2⟩
      have HB2 := Lib.hid (HB1.out.trans (hb2.mono HB1.out.size))
      clear hb2
      go_wp2_with fail
      refine (HIS.out _ (HE.out _ HB2.out)).mono ?_
      rintro e w3 ⟨rfl, hb3⟩
      have HB3 := Lib.hid (HB2.out.trans (hb3.mono HB2.out.size))
      clear hb3
      cases ip with
      | false =>
        go_wp2
        go_ret
        exact ⟨ret_int (by rw [FP.out (by trivial)]; rfl), HB3.out⟩
      | true =>
        rcases MT.out with ⟨hm, q1, q2, q3, q4⟩ | ⟨hm, hq⟩
        · have HF1 := Lib.hid (F1.out hm)
          clear hm
          go_wp2_with fail
          refine (HTG.out _).mono ?_
          rintro e w4 ⟨rfl, hb4⟩
          have hb0 := HB3.out.alloc HB3.out.size (.cells #[.string x.at_, .int .i64 x.mode, .int .i64 x.time, .string x.target] 103)
          have HB4 := Lib.hid (hb0.trans (hb4.mono hb0.size))
          clear hb0 hb4
          cases tg with
          | false =>
            have HM := Lib.hid (FF.out (by trivial) HF1.out)
            go_wp2
            go_ret
            exact ⟨ret_int (by rw [HM.out]; rfl), HB4.out⟩
          | true =>
            have HM := Lib.hid (FO.out (by trivial) HF1.out)
            go_wp2_with fail
            refine (HNP.out _).mono ?_
            rintro e w5 ⟨rfl, hb5⟩
            have HB5 := Lib.hid (HB4.out.trans (hb5.mono HB4.out.size))
            clear hb5
            go_wp2
            go_ret
            exact ⟨ret_int (by rw [HM.out]; rfl), HB5.out.alloc HB5.out.size _⟩
        · have HM := Lib.hid (FF.out rfl (FM.out hm))
          clear hm
          rcases hq with q1 | ⟨q1, q2⟩ | ⟨q1, q2, q3⟩ | ⟨q1, q2, q3, q4⟩
          all_goals
            go_wp2
            go_ret
            exact ⟨ret_int (by rw [HM.out]; rfl), HB3.out⟩
    · rw [hkk] at h; cases h
end Go.Proofs.YtaoejgnfoecpfaaDoor
namespace Go.Proofs.YtaoejgnfoecpfaaDoor
set_option linter.unusedVariables false
set_option linter.unusedSimpArgs false
set_option linter.unusedSectionVars false
open Go.RowKit

/-- a node whose kind is known: what a walk asks of its value -/
structure NodeAs (x : Nr) (t : TypeId) (u : Value) (f : Nat) : Prop where
  me : ∀ (n : Nat) (w : World), (Go.method (n + 1) t u "Path").run Tryd.prog w = .ok (f, u) w
  cf : ∀ w, (callFunc f #[u]).run Tryd.prog w = .ok (.enter f #[u]) w
  pa : ∀ w, Calls Tryd.prog f #[u] w fun e w' => e = .returned (.string x.at_) ∧ Below w.heap.size w w'
  ta : ∃ (z0 : ByteArray) (z1 z2 : Int), ∀ w, (Instr.typeAssert (.iface t u) 35 26 true).run Tryd.prog w = .ok (.tuple #[.agg #[.string z0, .int .i64 z1, .int .i64 z2], .bool (decide (x.kind = 1))]) w
theorem cfFol (u : Value) (w : World) : (callFunc 176 #[u]).run Tryd.prog w = .ok (.enter 176 #[u]) w := by kernel_rfl
theorem cfPla (u : Value) (w : World) : (callFunc 178 #[u]).run Tryd.prog w = .ok (.enter 178 #[u]) w := by kernel_rfl
theorem cfSym (u : Value) (w : World) : (callFunc 179 #[u]).run Tryd.prog w = .ok (.enter 179 #[u]) w := by kernel_rfl
theorem NodeIs.as_ {w : World} {v : Value} {x : Nr} (h : NodeIs w v x) (hk : kindOk x = true) : ∃ t u f, v = .iface t u ∧ NodeAs x t u f := by
  rcases h with ⟨h, rfl⟩ | ⟨h, A, c, rfl, _⟩ | ⟨h, rfl⟩ | ⟨h, _⟩
  · exact ⟨_, _, _, rfl, fun n w => mFol n _ w, fun w => cfFol _ w, fun w => pathF _ _ _ w, _, _, _, fun w => by rw [taFF, h]; rfl⟩
  · exact ⟨_, _, _, rfl, fun n w => mPla n _ w, fun w => cfPla _ w, fun w => pathP _ _ _ _ _ _ _ w, _, _, _, fun w => by rw [taPF, h]; rfl⟩
  · exact ⟨_, _, _, rfl, fun n w => mSym n _ w, fun w => cfSym _ w, fun w => pathS _ _ _ _ w, _, _, _, fun w => by rw [taSF, h]; rfl⟩
  · rw [hk] at h; cases h
/-- a row of nodes -/
def NodesA (w : World) (A : Option Addr) (l : List Nr) : Prop := 0 < l.length → ∃ g o, A = some ⟨g, o, none⟩ ∧ g < w.heap.size ∧ ∀ (i : Nat) (x : Nr), l[i]? = some x → ∃ v, w.cell? ⟨g, o + i, none⟩ = some v ∧ NodeIs w v x
theorem NodesA.below {w w' : World} {A : Option Addr} {l : List Nr} (h : NodesA w A l) (hb : Below w.heap.size w w') : NodesA w' A l := fun hl => by
  obtain ⟨g, o, rfl, hg, hc⟩ := h hl
  refine ⟨g, o, rfl, Nat.lt_of_lt_of_le hg hb.size, fun i x hi => ?_⟩
  obtain ⟨v, h1, h2⟩ := hc i x hi
  exact ⟨v, (hb.cell (p := ⟨g, o + i, none⟩) hg).trans h1, h2.below hb⟩
theorem NodeIs.low {w w' : World} {_B : Nat} {v : Value} {x : Nr} (h : NodeIs w v x) (hb : Below w.heap.size w w') : NodeIs w' v x := h.below hb
/-- the folders among nodes -/
def folsN (l : List Nr) : List ByteArray := noB :: (l.filter fun m => decide (m.kind = 1)).map Nr.at_
theorem fols_there (l : List Nr) (p : ByteArray) : ((folsN l).any fun x => decide (x = p)) = thereN l p := by
  unfold folsN thereN
  rw [List.any_cons]
  congr 1
  · rw [Bool.eq_iff_iff, decide_eq_true_eq, decide_eq_true_eq]
    constructor
    · rintro rfl; rfl
    · intro h
      apply ba_inj
      rw [List.eq_nil_of_length_eq_zero (show p.data.toList.length = 0 by rw [ba_len]; exact h)]
      rfl
  · rw [List.any_map, List.any_filter]
    rfl
theorem fols_snoc (l : List Nr) (x : Nr) : folsN (l ++ [x]) = if x.kind = 1 then folsN l ++ [x.at_] else folsN l := by
  unfold folsN
  rw [List.filter_append]
  by_cases h : x.kind = 1 <;> simp [h]
theorem fols_len (l : List Nr) : (folsN l).length ≤ l.length + 1 := by
  unfold folsN
  rw [List.length_cons, List.length_map]
  have := List.length_filter_le (fun m : Nr => decide (m.kind = 1)) l
  omega
theorem sCmp_three (a b : ByteArray) : sCmp a b = -1 ∨ sCmp a b = 0 ∨ sCmp a b = 1 := by
  unfold sCmp
  split
  · exact .inl rfl
  · split
    · exact .inr (.inl rfl)
    · exact .inr (.inr rfl)
theorem cmpL_three : ∀ a b : List ByteArray, cmpL a b = -1 ∨ cmpL a b = 0 ∨ cmpL a b = 1
  | [], [] => .inr (.inl rfl)
  | [], _ :: _ => .inl rfl
  | _ :: _, [] => .inr (.inr rfl)
  | x :: xs, y :: ys => by
    unfold cmpL
    split
    · exact cmpL_three xs ys
    · exact sCmp_three x y
/-- the steps of a check -/
theorem stepN_fit {pre : List Nr} {x : Nr} (h : fitN x ≠ 0) : stepN pre x = fitN x := by unfold stepN; rw [if_pos h]
theorem stepN_first {x : Nr} (h : fitN x = 0) : stepN [] x = if thereN [] (parentP x.at_) = false then 7 else 0 := by
  unfold stepN
  rw [if_neg (by omega)]
  rfl
theorem stepN_next {pre : List Nr} {y x : Nr} (hy : pre.getLast? = some y) (h : fitN x = 0) : stepN pre x = if cmpL (partsP y.at_) (partsP x.at_) ≠ -1 then 4 else if thereN pre (parentP x.at_) = false then 7 else 0 := by
  unfold stepN
  rw [if_neg (by omega), hy]
  simp only [decide_eq_true_eq]
theorem goN_stop {pre r : List Nr} {x : Nr} (h : stepN pre x ≠ 0) : goN pre (x :: r) = stepN pre x := by unfold goN; rw [if_pos h]
theorem goN_step {pre r : List Nr} {x : Nr} (h : stepN pre x = 0) : goN pre (x :: r) = goN (pre ++ [x]) r := by
  conv => lhs; unfold goN
  rw [if_neg (by omega)]
theorem take_last {l : List Nr} {k : Nat} (hk : k < l.length) : (l.take (k + 1)).getLast? = some l[k] := by
  rw [List.take_succ_eq_append_getElem hk, List.getLast?_append]
  rfl
set_option maxRecDepth 100000 in
set_option maxHeartbeats 6400000 in
theorem ncheck_any (l : List Nr) (A : Option Addr) (c : Nat) (w : World) (he : Env w) (hn : NodesA w A l) (hb : ∀ x ∈ l, NrB x) (hl : l.length ≤ 9223372036854775807) :
    Calls Tryd.prog 48 #[.slice A l.length c] w fun e w' => e = .returned (.int .i64 (chkN l)) ∧ Below w.heap.size w w' := by
  have HE := Lib.hid fun W (hb : Below w.heap.size w W) => he.below hb
  have HN := Lib.hid fun W (hb : Below w.heap.size w W) => hn.below hb
  have HB := Lib.hid hb
  clear he hn hb
  by_cases h2 : 200 < l.length
  · have HC := Lib.hid (show chkN l = 2 from if_pos h2)
    have hq : (200 : Int) < (l.length : Int) := by omega
    clear h2
    go_enter Tryd.func48, Tryd.ntmps48
    go_wp2
    go_ret
    exact ⟨ret_int (by rw [HC.out]; rfl), Below.refl _ _⟩
  · have HC := Lib.hid (show chkN l = goN [] l from if_neg h2)
    have hq : ¬ (200 : Int) < (l.length : Int) := by omega
    have hmm := @run_makeMap Tryd.prog
    have hown0 := ownsKV_made w Tryd.prog 9
    have HB0 := Lib.hid ((Below.refl w.heap.size w).alloc (Nat.le_refl _) (.map #[] 0))
    have hz0 : ∀ W, (zeroValue 4).run Tryd.prog W = .ok (.bool false) W := fun W => by kernel_rfl
    have HZ := Lib.hid hz0
    clear hz0
    go_enter Tryd.func48, Tryd.ntmps48
    go_upto_region 3 with fail
    go_wp2_with (refine wpList_kvInsert rfl _ _ _ 136 rfl Tryd.underlying9 Tryd.underlying136 rfl hown0 (by simp) (s := ⟨#[]⟩) rfl (by decide) rfl ?_; intro w1 hown1 hturn1)
    have hb1 : Below w.heap.size w w1 := (Touch.of_turned hturn1).below (w := w.alloc (.map #[] 0)) (B := w.heap.size) (by simp) (fun k hk => by omega) |> fun h => HB0.out.trans h
    have HO1 := Lib.hid hown1
    have HB1 := Lib.hid hb1
    clear hown1 hturn1 hb1 hown0 HB0
    go_loopw [16] (fun i wr => ∃ k : Nat, i = .int .i64 k ∧ k ≤ l.length ∧ goN (l.take k) (l.drop k) = goN [] l ∧ (∀ y ∈ l.take k, fitN y = 0) ∧ ownsKV wr Tryd.prog 9 w.heap.size (setV (folsN (l.take k))) ∧ Below w.heap.size w wr) (fun i _ => l.length - (intOf i).toNat)
    case atStart => exact ⟨0, rfl, Nat.zero_le _, rfl, (fun y hy => by simp at hy), HO1.out, HB1.out⟩
    case round =>
      obtain ⟨k, rfl, hk, hgo, hfit, hown, hbel⟩ := hrel
      have HO := Lib.hid hown
      have HBL := Lib.hid hbel
      clear HO1 HB1 hown
      by_cases hkl : k < l.length
      · have hdr : l.drop k = l[k] :: l.drop (k + 1) := List.drop_eq_getElem_cons hkl
        rw [hdr] at hgo
        have HGO := Lib.hid (HC.out.trans hgo.symm)
        have HTK := Lib.hid (List.take_succ_eq_append_getElem hkl)
        obtain ⟨g, o, rfl, hg, hc⟩ := HN.out wr hbel (by omega)
        have hck := hc k l[k] (List.getElem?_eq_getElem hkl)
        have HCC := Lib.hid hc
        have hbk := HB.out _ (List.getElem_mem hkl)
        have HFT := Lib.hid hfit
        have HPR := Lib.hid fun (m : Nat) (hm : k = m + 1) => (show l[m]? = some (l[m]'(by omega)) from List.getElem?_eq_getElem (by omega))
        have HLA := Lib.hid fun (m : Nat) (hm : k = m + 1) => (by subst hm; exact take_last (by omega) : (l.take k).getLast? = some (l[m]'(by omega)))
        have HMM := Lib.hid fun (m : Nat) (hm : k = m + 1) => (by
          have h1 := HLA.out m hm
          exact hfit _ (List.mem_of_getLast? h1) : fitN (l[m]'(by omega)) = 0)
        have HFO := Lib.hid (fols_there (l.take k))
        have HFL := Lib.hid (fols_len (l.take k))
        have HFS := Lib.hid (fols_snoc (l.take k) l[k])
        have hlt : (l.take k).length ≤ l.length := by rw [List.length_take]; omega
        have HGN := Lib.hid (@goN_step (l.take k) (l.drop (k + 1)) l[k])
        have HGS := Lib.hid (@goN_stop (l.take k) (l.drop (k + 1)) l[k])
        clear hc hdr hgo hfit hbel
        generalize l[k] = x at *
        obtain ⟨v, hcv, hv⟩ := hck
        have hf := fit_any v x wr (HE.out _ HBL.out) hv hbk
        have hk0 : (0 : Int) ≤ (k : Int) := by omega
        have hki : (k : Int) < (l.length : Int) := by omega
        have hk3 : ((k : Int)).toNat = k := by omega
        by_cases hfx : fitN x = 0
        · rw [hfx] at hf
          have HF := Lib.hid hf
          obtain ⟨hkx, hpx, _⟩ := fit_parts hfx
          have hsx := path_size hpx
          obtain ⟨t, u, f, rfl, hme, hcf, hpa, z0, z1, z2, hta⟩ := hv.as_ hkx
          obtain ⟨d1, hd1⟩ : ∃ d1, d1 = decide (x.kind = 1) := ⟨_, rfl⟩
          rw [← hd1] at hta
          have HD1 := Lib.hid hd1
          clear hd1
          have HPA := Lib.hid hpa
          have HPP := Lib.hid fun W => pparent_any x.at_ W (by omega)
          have HSF := Lib.hid fun (h : l.take k = []) => (by rw [h]; exact stepN_first hfx : stepN (l.take k) x = if thereN [] (parentP x.at_) = false then 7 else 0)
          have HSN := Lib.hid fun y (hy : (l.take k).getLast? = some y) => stepN_next hy hfx
          clear hf hv hbk hkx hpx hpa
          have hpz : (parentP x.at_).size ≤ 9223372036854775807 := by
            unfold parentP
            rw [ByteArray.size_extract]
            omega
          go_wp2_with fail
          refine HF.out.mono ?_
          rintro e w2 ⟨rfl, hb2⟩
          have HB2 := Lib.hid (HBL.out.trans (hb2.mono HBL.out.size))
          have HO2 := Lib.hid (ownsKV_block HO.out (hb2.block _ (ownsKV_lt HO.out)))
          have HW2 := Lib.hid hb2
          clear hb2
          go_upto_region 10 with fail
          go_cut [39] (fun v wc => ∃ bb : Bool, v = .bool bb ∧ (bb = true → stepN (l.take k) x = 4) ∧ (bb = false → stepN (l.take k) x = if thereN (l.take k) (parentP x.at_) = false then 7 else 0) ∧ ownsKV wc Tryd.prog 9 w.heap.size (setV (folsN (l.take k))) ∧ Below w.heap.size w wc)
          case first =>
            by_cases hk00 : k = 0
            · have hq0 : ¬ (0 : Int) < (k : Int) := by omega
              have HS0 := Lib.hid (show stepN (l.take k) x = if thereN (l.take k) (parentP x.at_) = false then 7 else 0 by
                have h0 : l.take k = [] := by rw [hk00]; rfl
                rw [HSF.out h0, h0])
              clear hk00
              go_wp2
              go_meet
              exact ⟨false, rfl, (fun h => by cases h), fun _ => HS0.out, HO2.out, HB2.out⟩
            · obtain ⟨m, hm⟩ : ∃ m, k = m + 1 := ⟨k - 1, by omega⟩
              have hq0 : (0 : Int) < (k : Int) := by omega
              have hq1 : (k : Int) - 1 = (m : Int) := by omega
              have hq2 : (0 : Int) ≤ (m : Int) := by omega
              have hq3 : (m : Int) < (l.length : Int) := by omega
              have hq4 : ((m : Int)).toNat = m := by omega
              have hpr := HPR.out m hm
              have hla := HLA.out m hm
              have hfy := HMM.out m hm
              clear hk00 HPR HLA HMM
              generalize l[m]'(by omega) = y at *
              obtain ⟨v', hcv', hv'⟩ := HCC.out m y hpr
              obtain ⟨hky, hpy, _⟩ := fit_parts hfy
              have hsy := path_size hpy
              obtain ⟨t', u', f', rfl, hme', hcf', hpa', _⟩ := hv'.as_ hky
              have HPA' := Lib.hid hpa'
              have HCM := Lib.hid fun W (h : Env W) => pcompare_any y.at_ x.at_ W h (by omega) (by omega)
              have hc2 : w2.cell? ⟨g, o + m, none⟩ = some (.iface t' u') := (HW2.out.cell (p := ⟨g, o + m, none⟩) hg).trans hcv'
              have HNX := Lib.hid (HSN.out y hla)
              clear hv' hky hpy hpa' hpr hla hfy hcv' hm
              go_wp2_with fail
              refine (HPA'.out _).mono ?_
              rintro e w3 ⟨rfl, hb3⟩
              have HB3 := Lib.hid (HB2.out.trans (hb3.mono HB2.out.size))
              have HO3 := Lib.hid (ownsKV_block HO2.out (hb3.block _ (ownsKV_lt HO2.out)))
              clear hb3
              go_wp2_with fail
              refine (HPA.out _).mono ?_
              rintro e w4 ⟨rfl, hb4⟩
              have HB4 := Lib.hid (HB3.out.trans (hb4.mono HB3.out.size))
              have HO4 := Lib.hid (ownsKV_block HO3.out (hb4.block _ (ownsKV_lt HO3.out)))
              clear hb4
              go_wp2_with fail
              refine (HCM.out _ (HE.out _ HB4.out)).mono ?_
              rintro e w5 ⟨rfl, hb5⟩
              have HB5 := Lib.hid (HB4.out.trans (hb5.mono HB4.out.size))
              have HO5 := Lib.hid (ownsKV_block HO4.out (hb5.block _ (ownsKV_lt HO4.out)))
              clear hb5
              have h3 := cmpL_three (partsP y.at_) (partsP x.at_)
              generalize cmpL (partsP y.at_) (partsP x.at_) = cv at *
              rcases h3 with rfl | rfl | rfl
              · go_wp2
                go_meet
                exact ⟨false, rfl, (fun h => by cases h), fun _ => HNX.out.trans (if_neg (by simp)), HO5.out, HB5.out⟩
              · go_wp2
                go_meet
                exact ⟨true, rfl, (fun _ => HNX.out.trans (if_pos (by decide))), (fun h => by cases h), HO5.out, HB5.out⟩
              · go_wp2
                go_meet
                exact ⟨true, rfl, (fun _ => HNX.out.trans (if_pos (by decide))), (fun h => by cases h), HO5.out, HB5.out⟩
          case rest =>
            obtain ⟨bb, rfl, hb4, hb0, hown3, hb3⟩ := hcut
            have HO3 := Lib.hid hown3
            have HB3 := Lib.hid hb3
            have HS4 := Lib.hid hb4
            have HS0 := Lib.hid hb0
            clear hown3 hb3 hb4 hb0 HB2 HO2 HW2 HSF HSN
            cases bb with
            | true =>
              have HX := Lib.hid (show chkN l = 4 by rw [HGO.out, HGS.out (by rw [HS4.out rfl]; decide), HS4.out rfl])
              go_wp2
              go_ret
              exact ⟨ret_int (by rw [HX.out]; rfl), HB3.out⟩
            | false =>
              have HS := Lib.hid (HS0.out rfl)
              have hge := (setV_get (folsN (l.take k)) (parentP x.at_)).trans (by rw [HFO.out])
              have HGE := Lib.hid hge
              clear hge HS0 HS4
              go_wp2_with fail
              refine (HPA.out _).mono ?_
              rintro e w4 ⟨rfl, hb4⟩
              have HB4 := Lib.hid (HB3.out.trans (hb4.mono HB3.out.size))
              have HO4 := Lib.hid (ownsKV_block HO3.out (hb4.block _ (ownsKV_lt HO3.out)))
              clear hb4
              go_wp2_with fail
              refine (HPP.out _).mono ?_
              rintro e w5 ⟨rfl, rfl⟩
              cases hth : thereN (l.take k) (parentP x.at_) with
              | false =>
                rw [hth] at HGE
                have HX := Lib.hid (show chkN l = 7 by
                  have h7 : stepN (l.take k) x = 7 := HS.out.trans (if_pos hth)
                  rw [HGO.out, HGS.out (by rw [h7]; decide), h7])
                clear hth
                go_wp2_with (at_lookup; refine wpList_kvGet rfl _ _ 136 rfl Tryd.underlying9 Tryd.underlying136 (HZ.out _) rfl HO4.out rfl (by unfold maxLen; omega) HGE.out ?_)
                go_ret
                exact ⟨ret_int (by rw [HX.out]; rfl), HB4.out⟩
              | true =>
                rw [hth] at HGE
                have HG1 := Lib.hid (HGN.out (HS.out.trans (if_neg (by rw [hth]; simp))))
                have HF0 := Lib.hid (show ∀ y ∈ l.take (k + 1), fitN y = 0 from fun y hy => by
                  rw [HTK.out, List.mem_append, List.mem_singleton] at hy
                  rcases hy with hy | rfl
                  · exact HFT.out y hy
                  · exact hfx)
                clear hth
                have HB6 := Lib.hid (HB4.out.alloc HB4.out.size (.cells #[.string z0, .int .i64 z1, .int .i64 z2] 26))
                have HO6 := Lib.hid (ownsKV_block HO4.out (Below.heap_alloc w4 (.cells #[.string z0, .int .i64 z1, .int .i64 z2] 26) _ (ownsKV_lt HO4.out)))
                have HTK2 := HTK
                cases d1 with
                | true =>
                  have HSS := Lib.hid (show setV (folsN (l.take (k + 1))) = kvPut (setV (folsN (l.take k))) x.at_ (.bool true) by rw [HTK.out, HFS.out, if_pos (of_decide_eq_true HD1.out.symm), setV_snoc])
                  go_wp2_with (at_lookup; refine wpList_kvGet rfl _ _ 136 rfl Tryd.underlying9 Tryd.underlying136 (HZ.out _) rfl HO4.out rfl (by unfold maxLen; omega) HGE.out ?_)
                  refine (HPA.out _).mono ?_
                  rintro e w7 ⟨rfl, hb7⟩
                  have HB7 := Lib.hid (HB6.out.trans (hb7.mono HB6.out.size))
                  have HO7 := Lib.hid (ownsKV_block HO6.out (hb7.block _ (ownsKV_lt HO6.out)))
                  clear hb7
                  have hsl := setV_len (folsN (l.take k))
                  have hfl := HFL.out
                  go_wp2_with (at_mapUpdate; refine wpList_kvStore rfl _ _ _ 136 rfl Tryd.underlying9 Tryd.underlying136 rfl HO7.out (by omega) rfl (by unfold maxLen; omega) rfl ?_; intro w8 hown8 hturn8)
                  have HO8 := Lib.hid hown8
                  have HB8 := Lib.hid (HB7.out.trans ((Touch.of_turned hturn8).below (B := w.heap.size) HB7.out.size (fun k hk => by omega)))
                  clear hown8 hturn8 hsl hfl
                  go_wp2
                  go_roundw
                  case rel => exact ⟨k + 1, by go_num, by omega, by rw [HTK2.out, ← HG1.out, HGO.out.symm]; exact HC.out, HF0.out, by rw [HSS.out]; exact HO8.out, HB8.out⟩
                  case measure => simp [intOf]; omega
                | false =>
                  have HSS := Lib.hid (show setV (folsN (l.take (k + 1))) = setV (folsN (l.take k)) by rw [HTK.out, HFS.out, if_neg (of_decide_eq_false HD1.out.symm)])
                  go_wp2_with (at_lookup; refine wpList_kvGet rfl _ _ 136 rfl Tryd.underlying9 Tryd.underlying136 (HZ.out _) rfl HO4.out rfl (by unfold maxLen; omega) HGE.out ?_)
                  go_roundw
                  case rel => exact ⟨k + 1, by go_num, by omega, by rw [HTK2.out, ← HG1.out, HGO.out.symm]; exact HC.out, HF0.out, by rw [HSS.out]; exact HO6.out, HB6.out⟩
                  case measure => simp [intOf]; omega
        · have hne : (((fitN x : Nat) : Int) != 0) = true := by rw [bne_iff_ne]; omega
          have HF := Lib.hid hf
          have HX := Lib.hid (show chkN l = fitN x by rw [HGO.out, HGS.out (by rw [stepN_fit hfx]; exact hfx), stepN_fit hfx])
          clear hf hv hbk
          go_wp2_with fail
          refine HF.out.mono ?_
          rintro e w2 ⟨rfl, hb2⟩
          go_wp2
          go_ret
          exact ⟨ret_int (by rw [HX.out]), HBL.out.trans (hb2.mono HBL.out.size)⟩
      · obtain rfl : k = l.length := by omega
        rw [List.drop_length] at hgo
        have HX := Lib.hid (show chkN l = 0 from HC.out.trans hgo.symm)
        clear hgo hfit
        go_wp2
        go_ret
        exact ⟨ret_int (by rw [HX.out]; rfl), HBL.out⟩
end Go.Proofs.YtaoejgnfoecpfaaDoor
