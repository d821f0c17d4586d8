/- A tree's nodes: fit. A row of folders, and folders in one another: the plain law of NodeFull. -/
import Derived.Test.YtaoejgnfoecpfaaDoorJf7
import Derived.Test.YtaoejgnfoecpfaaDoorJf6
namespace Go.Proofs.YtaoejgnfoecpfaaDoor
set_option linter.unusedVariables false
set_option linter.unusedSimpArgs false
set_option linter.unusedSectionVars false
open Go.RowKit

/-- the bounds of what came in -/
structure NrB (x : Nr) : Prop where
  at_ : x.at_.size ≤ 140737488355328
  tg : x.target.size ≤ 140737488355328
  ch : x.chunks.length ≤ 140737488355328
  cs : ∀ c ∈ x.chunks, c.size ≤ 140737488355328
  sz : -9223372036854775808 ≤ x.size ∧ x.size ≤ 9223372036854775807
  md : -9223372036854775808 ≤ x.mode ∧ x.mode ≤ 9223372036854775807
  tm : -9223372036854775808 ≤ x.time ∧ x.time ≤ 9223372036854775807
theorem kindR_no {x : Nr} (h : kindOk x = false) : kindR x = 0 := by unfold kindR; rw [h]; rfl
theorem kindR_ok {x : Nr} (h : kindOk x = true) : kindR x = x.kind ∧ 1 ≤ x.kind ∧ x.kind ≤ 3 := by
  refine ⟨by unfold kindR; rw [if_pos h], ?_⟩
  unfold kindOk at h
  simpa using h
def mtOk (x : Nr) : Bool := decide (0 ≤ x.mode) && decide (x.mode ≤ 511) && decide (0 ≤ x.time) && decide (x.time ≤ 253402300799)
theorem form_mt {x : Nr} (h : mtOk x = false) : formOk x = false := by
  unfold mtOk at h
  unfold formOk
  rw [h]
  rfl
theorem form_one {x : Nr} (h : mtOk x = true) (hk : x.kind = 1) : formOk x = true := by
  unfold mtOk at h
  unfold formOk
  rw [h, hk]
  rfl
theorem form_three {x : Nr} (h : mtOk x = true) (hk : x.kind = 3) : formOk x = tgt x.target := by
  unfold mtOk at h
  unfold formOk
  rw [h, hk]
  simp
theorem form_two {x : Nr} (h : mtOk x = true) (hk : x.kind = 2) : formOk x = fileOk x := by
  unfold mtOk at h
  unfold formOk
  rw [h, hk]
  simp
theorem fit_path {x : Nr} (hk : kindOk x = true) (h : isPath x.at_ = false) : fitN x = 11 := by unfold fitN; rw [hk, if_neg (by simp), if_pos h]
theorem fit_form {x : Nr} (hk : kindOk x = true) (hp : isPath x.at_ = true) (h : formOk x = false) : fitN x = 4 := by unfold fitN; rw [hk, if_neg (by simp), hp, if_neg (by simp), if_pos h]
theorem fit_ok {x : Nr} (hk : kindOk x = true) (hp : isPath x.at_ = true) (h : formOk x = true) : fitN x = 0 := by unfold fitN; rw [hk, if_neg (by simp), hp, if_neg (by simp), h, if_neg (by simp)]
theorem mt_cases (x : Nr) : (mtOk x = true ∧ ¬ x.mode < 0 ∧ ¬ 511 < x.mode ∧ ¬ x.time < 0 ∧ ¬ 253402300799 < x.time) ∨ (mtOk x = false ∧ (x.mode < 0 ∨ (¬ x.mode < 0 ∧ 511 < x.mode) ∨ (¬ x.mode < 0 ∧ ¬ 511 < x.mode ∧ x.time < 0) ∨ (¬ x.mode < 0 ∧ ¬ 511 < x.mode ∧ ¬ x.time < 0 ∧ 253402300799 < x.time))) := by
  cases h : mtOk x with
  | true =>
    unfold mtOk at h
    simp only [Bool.and_eq_true, decide_eq_true_eq] at h
    exact .inl ⟨rfl, by omega, by omega, by omega, by omega⟩
  | false =>
    refine .inr ⟨rfl, ?_⟩
    unfold mtOk at h
    simp only [Bool.and_eq_false_iff, decide_eq_false_iff_not] at h
    omega
theorem file_cases (x : Nr) : (fileOk x = false ∧ (x.size < 0 ∨ (¬ x.size < 0 ∧ 32768 < x.size) ∨ (¬ x.size < 0 ∧ ¬ 32768 < x.size ∧ x.size < (x.chunks.length : Int)) ∨ (¬ x.size < 0 ∧ ¬ 32768 < x.size ∧ ¬ x.size < (x.chunks.length : Int) ∧ (x.size == 0) = false ∧ ((x.chunks.length : Int) == 0) = true))) ∨
    (¬ x.size < 0 ∧ ¬ 32768 < x.size ∧ ¬ x.size < (x.chunks.length : Int) ∧ (x.size == 0) = ((x.chunks.length : Int) == 0) ∧ fileOk x = x.chunks.all fun c => decide (c.size = 32)) := by
  by_cases h1 : x.size < 0
  · exact .inl ⟨by unfold fileOk; simp only [decide_eq_false (show ¬ 0 ≤ x.size by omega), Bool.false_and], .inl h1⟩
  by_cases h2 : 32768 < x.size
  · exact .inl ⟨by unfold fileOk; simp only [decide_eq_false (show ¬ x.size ≤ 32768 by omega), Bool.and_false, Bool.false_and], .inr (.inl ⟨h1, h2⟩)⟩
  by_cases h3 : x.size < (x.chunks.length : Int)
  · exact .inl ⟨by unfold fileOk; simp only [decide_eq_false (show ¬ (x.chunks.length : Int) ≤ x.size by omega), Bool.and_false, Bool.false_and], .inr (.inr (.inl ⟨h1, h2, h3⟩))⟩
  by_cases h4 : 0 < x.size ∧ x.chunks.length = 0
  · refine .inl ⟨by unfold fileOk; simp only [decide_eq_true h4.1, decide_eq_true h4.2, Bool.and_true, Bool.not_true, Bool.and_false, Bool.false_and], .inr (.inr (.inr ⟨h1, h2, h3, ?_, ?_⟩))⟩
    · rw [beq_eq_false_iff_ne]; omega
    · rw [beq_iff_eq]; omega
  · refine .inr ⟨h1, h2, h3, ?_, ?_⟩
    · rw [Bool.eq_iff_iff, beq_iff_eq, beq_iff_eq]; omega
    · unfold fileOk
      rw [decide_eq_true (show 0 ≤ x.size by omega), decide_eq_true (show x.size ≤ 32768 by omega), decide_eq_true (show (x.chunks.length : Int) ≤ x.size by omega)]
      have : (!(decide (0 < x.size) && decide (x.chunks.length = 0))) = true := by
        rw [Bool.not_eq_true', Bool.and_eq_false_iff, decide_eq_false_iff_not, decide_eq_false_iff_not]
        omega
      rw [this]
      rfl
theorem all_snoc {p : ByteArray → Bool} {l : List ByteArray} {k : Nat} (h : k < l.length) (hp : (l.take k).all p = true) (hc : p l[k] = true) : (l.take (k + 1)).all p = true := by
  rw [List.take_succ_eq_append_getElem h, List.all_append, hp]
  simp [hc]
theorem all_no {p : ByteArray → Bool} {l : List ByteArray} {k : Nat} (h : k < l.length) (hc : p l[k] = false) : l.all p = false := by
  rw [List.all_eq_false]
  exact ⟨l[k], List.getElem_mem h, by rw [hc]; simp⟩
set_option maxRecDepth 100000 in
set_option maxHeartbeats 3200000 in
theorem fit_any (v : Value) (x : Nr) (w : World) (he : Env w) (h : NodeIs w v x) (hb : NrB x) : Calls Tryd.prog 87 #[v] w fun e w' => e = .returned (.int .i64 (fitN x)) ∧ Below w.heap.size w w' := by
  have HK := Lib.hid (kind_any v x w h)
  cases hk : kindOk x with
  | false =>
    rw [kindR_no hk] at HK
    have HF := Lib.hid (show fitN x = 12 by unfold fitN; rw [if_pos hk])
    clear hk h hb he
    go_enter Tryd.func87, Tryd.ntmps87
    go_wp2_with fail
    refine HK.out.mono ?_
    rintro e w1 ⟨rfl, rfl⟩
    go_wp2
    go_ret
    exact ⟨ret_int (by rw [HF.out]; rfl), Below.refl _ _⟩
  | true =>
    obtain ⟨hk1, hk2, hk3⟩ := kindR_ok hk
    rw [hk1] at HK
    have m1 := mFol
    have m2 := mPla
    have m3 := mSym
    have hkq : (x.kind == 0) = false := by simp; omega
    have HFA := Lib.hid (facts_any v x w h hk)
    have HE := Lib.hid fun W (hb : Below w.heap.size w W) => he.below hb
    have HIS := Lib.hid fun W (h : Env W) => pis_big x.at_ W h hb.at_
    have FP := Lib.hid (fit_path hk)
    have FF := Lib.hid (fit_form hk)
    have FO := Lib.hid (fit_ok hk)
    have MT := Lib.hid (mt_cases x)
    have hbt := hb.tg
    have hbc := hb.ch
    have HBC := Lib.hid hb
    have hkk := hk
    clear hk hk1 hk2 hk3 he hb
    rcases h with ⟨h, rfl⟩ | ⟨h, A, c, rfl, hst, _⟩ | ⟨h, rfl⟩ | ⟨h, _⟩
    · have FM := Lib.hid fun h1 => form_mt (x := x) h1
      have F1 := Lib.hid fun h1 => form_one (x := x) h1 h
      have ts := taFS
      have HNP := Lib.hid fun W => asPlain_no (folV x.at_ x.mode x.time) (.inl ⟨_, rfl⟩) W
      unfold folV at *
      unfold zSym at ts
      generalize isPath x.at_ = ip at *
      go_enter Tryd.func87, Tryd.ntmps87
      go_wp2_with fail
      refine HK.out.mono ?_
      rintro e w1 ⟨rfl, rfl⟩
      go_wp2_with fail
      refine HFA.out.mono ?_
      rintro e w1 ⟨rfl, hb1⟩
      have HB1 := Lib.hid hb1
      clear hb1
      go_wp2_with fail
      refine (pathF _ _ _ _).mono ?_
      rintro e w2 ⟨rfl, hb2⟩
      have HB2 := Lib.hid (HB1.out.trans (hb2.mono HB1.out.size))
      clear hb2
      go_wp2_with fail
      refine (HIS.out _ (HE.out _ HB2.out)).mono ?_
      rintro e w3 ⟨rfl, hb3⟩
      have HB3 := Lib.hid (HB2.out.trans (hb3.mono HB2.out.size))
      clear hb3
      cases ip with
      | false =>
        go_wp2
        go_ret
        exact ⟨ret_int (by rw [FP.out (by trivial)]; rfl), HB3.out⟩
      | true =>
        rcases MT.out with ⟨hm, q1, q2, q3, q4⟩ | ⟨hm, hq⟩
        · have HM := Lib.hid (FO.out rfl (F1.out hm))
          clear hm
          go_wp2_with fail
          refine (HNP.out _).mono ?_
          rintro e w4 ⟨rfl, hb4⟩
          have HB4 := Lib.hid (((HB3.out.alloc HB3.out.size _).trans (hb4.mono (HB3.out.alloc HB3.out.size _).size)))
          clear hb4
          go_wp2
          go_ret
          exact ⟨ret_int (by rw [HM.out]; rfl), HB4.out.alloc HB4.out.size _⟩
        · have HM := Lib.hid (FF.out rfl (FM.out hm))
          clear hm
          rcases hq with q1 | ⟨q1, q2⟩ | ⟨q1, q2, q3⟩ | ⟨q1, q2, q3, q4⟩
          all_goals
            go_wp2
            go_ret
            exact ⟨ret_int (by rw [HM.out]; rfl), HB3.out⟩
    · have FM := Lib.hid fun h1 => form_mt (x := x) h1
      have F1 := Lib.hid fun h1 => form_two (x := x) h1 h
      have FC := Lib.hid (file_cases x)
      have ts := taPS
      have HPL := Lib.hid fun W => asPlain_pl x.at_ x.mode x.time x.size A x.chunks.length c W
      have HST := Lib.hid hst
      clear hst
      unfold plaV at *
      unfold zSym at ts
      generalize isPath x.at_ = ip at *
      go_enter Tryd.func87, Tryd.ntmps87
      go_wp2_with fail
      refine HK.out.mono ?_
      rintro e w1 ⟨rfl, rfl⟩
      go_wp2_with fail
      refine HFA.out.mono ?_
      rintro e w1 ⟨rfl, hb1⟩
      have HB1 := Lib.hid hb1
      clear hb1
      go_wp2_with fail
      refine (pathP _ _ _ _ _ _ _ _).mono ?_
      rintro e w2 ⟨rfl, hb2⟩
      have HB2 := Lib.hid (HB1.out.trans (hb2.mono HB1.out.size))
      clear hb2
      go_wp2_with fail
      refine (HIS.out _ (HE.out _ HB2.out)).mono ?_
      rintro e w3 ⟨rfl, hb3⟩
      have HB3 := Lib.hid (HB2.out.trans (hb3.mono HB2.out.size))
      clear hb3
      cases ip with
      | false =>
        go_wp2
        go_ret
        exact ⟨ret_int (by rw [FP.out (by trivial)]; rfl), HB3.out⟩
      | true =>
        rcases MT.out with ⟨hm, q1, q2, q3, q4⟩ | ⟨hm, hq⟩
        · have HF1 := Lib.hid (F1.out hm)
          clear hm
          rcases FC.out with ⟨hf, hq⟩ | ⟨z1, z2, z3, z4, hf⟩
          · have HM := Lib.hid (FF.out rfl (HF1.out.trans hf))
            clear hf
            rcases hq with z1 | ⟨z1, z2⟩ | ⟨z1, z2, z3⟩ | ⟨z1, z2, z3, z4, z5⟩
            all_goals
              go_wp2_with fail
              refine (HPL.out _).mono ?_
              rintro e w4 ⟨rfl, hb4⟩
              have hb0 := HB3.out.alloc HB3.out.size (.cells #[.string ⟨#[]⟩, .int .i64 0, .int .i64 0, .string ⟨#[]⟩] 103)
              have HB4 := Lib.hid (hb0.trans (hb4.mono hb0.size))
              clear hb0 hb4
              go_wp2
              go_ret
              exact ⟨ret_int (by rw [HM.out]; rfl), HB4.out.alloc HB4.out.size _⟩
          · have HMF := Lib.hid fun h => FF.out rfl (HF1.out.trans (hf.trans h))
            have HMO := Lib.hid fun h => FO.out rfl (HF1.out.trans (hf.trans h))
            clear hf
            generalize hzq : ((x.chunks.length : Int) == 0) = zq at *
            go_wp2_with fail
            refine (HPL.out _).mono ?_
            rintro e w4 ⟨rfl, hb4⟩
            have hb0 := HB3.out.alloc HB3.out.size (.cells #[.string ⟨#[]⟩, .int .i64 0, .int .i64 0, .string ⟨#[]⟩] 103)
            have HB4 := Lib.hid ((hb0.trans (hb4.mono hb0.size)).alloc (hb0.trans (hb4.mono hb0.size)).size (.cells #[.string x.at_, .int .i64 x.mode, .int .i64 x.time, .int .i64 x.size, .slice A x.chunks.length c] 75))
            have HST4 := Lib.hid (HST.out.below HB4.out)
            clear hb0 hb4
            have hzz : (zq != zq) = false := by cases zq <;> rfl
            go_wp2
            go_loop [10, 84] (fun _ i => ∃ k : Nat, k ≤ x.chunks.length ∧ i = .int .i64 k ∧ ((x.chunks.take k).all fun c => decide (c.size = 32)) = true) (fun _ i => x.chunks.length - (intOf i).toNat)
            case atStart => exact ⟨0, Nat.zero_le _, rfl, rfl⟩
            case round =>
              obtain ⟨k, hk, rfl, hall⟩ := hrel
              have Hall := Lib.hid hall
              clear hall
              by_cases hlt : k < x.chunks.length
              · obtain ⟨bk, ok, rfl, hbk, hcc⟩ := HST4.out (by omega)
                have hck := hcc k x.chunks[k] (List.getElem?_eq_getElem hlt)
                have Hf := Lib.hid fun (h : decide (x.chunks[k].size = 32) = false) => HMF.out (all_no hlt h)
                have Hs := Lib.hid fun (h : decide (x.chunks[k].size = 32) = true) => all_snoc (p := fun c => decide (c.size = 32)) hlt Hall.out h
                clear hcc
                generalize x.chunks[k] = ch at *
                by_cases h32 : ch.size = 32
                · have hne : ((ch.size : Int) != 32) = false := by rw [h32]; rfl
                  go_wp2
                  go_round
                  case rel => exact ⟨k + 1, by omega, by go_num, Hs.out (decide_eq_true h32)⟩
                  case measure => simp [intOf]; omega
                · have hne : ((ch.size : Int) != 32) = true := by rw [bne_iff_ne]; omega
                  have HM := Lib.hid (Hf.out (decide_eq_false h32))
                  go_wp2
                  go_ret
                  exact ⟨ret_int (by rw [HM.out]; rfl), HB4.out⟩
              · obtain rfl : k = x.chunks.length := by omega
                have HM := Lib.hid (HMO.out (by have := Hall.out; rwa [List.take_length] at this))
                go_wp2
                go_ret
                exact ⟨ret_int (by rw [HM.out]; rfl), HB4.out⟩
        · have HM := Lib.hid (FF.out rfl (FM.out hm))
          clear hm
          rcases hq with q1 | ⟨q1, q2⟩ | ⟨q1, q2, q3⟩ | ⟨q1, q2, q3, q4⟩
          all_goals
            go_wp2
            go_ret
            exact ⟨ret_int (by rw [HM.out]; rfl), HB3.out⟩
    · have FM := Lib.hid fun h1 => form_mt (x := x) h1
      have F1 := Lib.hid fun h1 => form_three (x := x) h1 h
      have ts := taSS
      have HNP := Lib.hid fun W => asPlain_no (symV x.at_ x.mode x.time x.target) (.inr (.inl ⟨_, rfl⟩)) W
      have HTG := Lib.hid fun W => target_any x.target W hbt
      unfold symV at *
      generalize isPath x.at_ = ip at *
      generalize tgt x.target = tg at *
      go_enter Tryd.func87, Tryd.ntmps87
      go_wp2_with fail
      refine HK.out.mono ?_
      rintro e w1 ⟨rfl, rfl⟩
      go_wp2_with fail
      refine HFA.out.mono ?_
      rintro e w1 ⟨rfl, hb1⟩
      have HB1 := Lib.hid hb1
      clear hb1
      go_wp2_with fail
      refine (pathS _ _ _ _ _).mono ?_
      rintro e w2 ⟨rfl, hb2⟩
      have HB2 := Lib.hid (HB1.out.trans (hb2.mono HB1.out.size))
      clear hb2
      go_wp2_with fail
      refine (HIS.out _ (HE.out _ HB2.out)).mono ?_
      rintro e w3 ⟨rfl, hb3⟩
      have HB3 := Lib.hid (HB2.out.trans (hb3.mono HB2.out.size))
      clear hb3
      cases ip with
      | false =>
        go_wp2
        go_ret
        exact ⟨ret_int (by rw [FP.out (by trivial)]; rfl), HB3.out⟩
      | true =>
        rcases MT.out with ⟨hm, q1, q2, q3, q4⟩ | ⟨hm, hq⟩
        · have HF1 := Lib.hid (F1.out hm)
          clear hm
          go_wp2_with fail
          refine (HTG.out _).mono ?_
          rintro e w4 ⟨rfl, hb4⟩
          have hb0 := HB3.out.alloc HB3.out.size (.cells #[.string x.at_, .int .i64 x.mode, .int .i64 x.time, .string x.target] 103)
          have HB4 := Lib.hid (hb0.trans (hb4.mono hb0.size))
          clear hb0 hb4
          cases tg with
          | false =>
            have HM := Lib.hid (FF.out (by trivial) HF1.out)
            go_wp2
            go_ret
            exact ⟨ret_int (by rw [HM.out]; rfl), HB4.out⟩
          | true =>
            have HM := Lib.hid (FO.out (by trivial) HF1.out)
            go_wp2_with fail
            refine (HNP.out _).mono ?_
            rintro e w5 ⟨rfl, hb5⟩
            have HB5 := Lib.hid (HB4.out.trans (hb5.mono HB4.out.size))
            clear hb5
            go_wp2
            go_ret
            exact ⟨ret_int (by rw [HM.out]; rfl), HB5.out.alloc HB5.out.size _⟩
        · have HM := Lib.hid (FF.out rfl (FM.out hm))
          clear hm
          rcases hq with q1 | ⟨q1, q2⟩ | ⟨q1, q2, q3⟩ | ⟨q1, q2, q3, q4⟩
          all_goals
            go_wp2
            go_ret
            exact ⟨ret_int (by rw [HM.out]; rfl), HB3.out⟩
    · rw [hkk] at h; cases h
end Go.Proofs.YtaoejgnfoecpfaaDoor
namespace Go.Proofs.YtaoejgnfoecpfaaDoor
set_option linter.unusedVariables false
set_option linter.unusedSimpArgs false
set_option linter.unusedSectionVars false
open Go.RowKit

def nmL (i : Nat) : List UInt8 := [UInt8.ofNat (97 + i / 26), UInt8.ofNat (97 + i % 26)]
def sxL : Nat → List UInt8
  | 0 => []
  | k + 1 => sxL k ++ [47, 120]
def deepF (i k : Nat) : ByteArray := ⟨(nmL i ++ sxL k).toArray⟩
def folN1 (s : ByteArray) : Nr := ⟨1, s, 0, 0, 0, [], noB⟩
def atF (n j : Nat) : ByteArray := if j < n then deepF j 0 else deepF (n - 1) (j + 1 - n)
def fF (n j : Nat) : Nr := folN1 (atF n j)
theorem parts_one {n : ByteArray} (h : ∀ c ∈ n.data.toList, c ≠ 47) : partsP n = [n] := by
  unfold partsP partsR
  rw [splitL_none _ h, List.map_cons, List.map_nil, strB_self]
theorem parent_in (a : ByteArray) {n : ByteArray} (hn : partsP n = [n]) : parentP (inP a n) = a := by
  have h1 := partsP_in a n
  rw [hn] at h1
  rcases last_cases (inP a n) with ⟨_, hp, _⟩ | ⟨i, hi, e, _, hp, _⟩
  · have h2 : (partsP (inP a n)).length = 1 := by
      unfold partsP
      rw [hp]
      rfl
    rw [h1, List.length_append] at h2
    have := partsP_ne a
    have h4 : [n].length = 1 := rfl
    omega
  · have ep : parentP (inP a n) = (inP a n).extract 0 i := by unfold parentP; rw [e]; rfl
    have h2 : partsP (inP a n) = partsP ((inP a n).extract 0 i) ++ [strB ((inP a n).extract (i + 1) (inP a n).size).data.toList] := by
      unfold partsP
      rw [hp, List.map_append]
      rfl
    rw [h1] at h2
    have h3 := (List.append_inj' h2 rfl).1
    rw [ep]
    exact (partsP_inj h3).symm
def ex1 : ByteArray := ⟨#[120]⟩
theorem deepF_in (i k : Nat) : deepF i (k + 1) = inP (deepF i k) ex1 := by
  apply ba_inj
  rw [inP_list]
  unfold deepF
  simp [sxL, ex1]
theorem ex1_part : partsP ex1 = [ex1] := by decide +kernel
theorem nm_part : ∀ i, i < 260 → partsP (deepF i 0) = [deepF i 0] := by decide +kernel
theorem nm_name : ∀ i, i < 260 → nameOk (deepF i 0) = true := by decide +kernel
theorem ex1_name : nameOk ex1 = true := by decide +kernel
theorem deepF_parts (i : Nat) (hi : i < 260) : ∀ k, partsP (deepF i k) = deepF i 0 :: List.replicate k ex1
  | 0 => by rw [nm_part i hi]; rfl
  | k + 1 => by
    rw [deepF_in, partsP_in, deepF_parts i hi k, ex1_part, List.replicate_succ', List.cons_append]
theorem deepF_len (i : Nat) : ∀ k, (deepF i k).size = 2 + 2 * k
  | 0 => rfl
  | k + 1 => by
    rw [deepF_in, inP_size, deepF_len i k]
    show 2 + 2 * k + 1 + 1 = _
    omega
theorem deep_path (i : Nat) (hi : i < 260) (k : Nat) (hk : k < 10) : isPath (deepF i k) = decide (k < 8) := by
  rw [isPath_parts, deepF_parts i hi k, deepF_len]
  have h1 : (deepF i 0 :: List.replicate k ex1).all nameOk = true := by
    rw [List.all_eq_true]
    intro x hx
    rcases List.mem_cons.1 hx with rfl | hx
    · exact nm_name i hi
    · rw [List.eq_of_mem_replicate hx]
      exact ex1_name
  rw [h1, decide_eq_true (show 2 + 2 * k ≤ 200 by omega), Bool.true_and, Bool.and_true, List.length_cons, List.length_replicate]
  exact decide_eq_decide.2 (by omega)
theorem deep_cmp : ∀ i, i < 260 → ∀ k, k < 9 → cmpL (partsP (deepF i k)) (partsP (deepF i (k + 1))) = -1 := by decide +kernel
theorem row_cmp : ∀ i, i < 259 → cmpL (partsP (deepF i 0)) (partsP (deepF (i + 1) 0)) = -1 := by decide +kernel
theorem row_par : ∀ i, i < 260 → (parentP (deepF i 0)).size = 0 := by decide +kernel
theorem deep_par (i : Nat) (_ : i < 260) (k : Nat) (_ : k < 9) : parentP (deepF i (k + 1)) = deepF i k := by rw [deepF_in, parent_in _ ex1_part]
theorem go_run (f : Nat → Nr) (r : List Nr) : ∀ (m j : Nat), (∀ i, j ≤ i → i < j + m → stepN ((List.range i).map f) (f i) = 0) → goN ((List.range j).map f) ((List.range' j m).map f ++ r) = goN ((List.range (j + m)).map f) r
  | 0, j, _ => rfl
  | m + 1, j, h => by
    rw [List.range'_succ, List.map_cons, List.cons_append, goN, if_neg (by rw [h j (Nat.le_refl _) (by omega)]; simp)]
    have e : (List.range j).map f ++ [f j] = (List.range (j + 1)).map f := by rw [List.range_succ, List.map_append]; rfl
    rw [e, go_run f r m (j + 1) (fun i h1 h2 => h i (by omega) (by omega)), show j + 1 + m = j + (m + 1) by omega]
theorem fit_fol (s : ByteArray) : fitN (folN1 s) = if isPath s = true then 0 else 11 := by
  have h1 : kindOk (folN1 s) = true := kindOk_of (show (1 : Int) ≤ 1 ∧ (1 : Int) ≤ 3 by decide)
  have h2 : formOk (folN1 s) = true := form_one (show mtOk (folN1 s) = true from rfl) rfl
  have h3 : (folN1 s).at_ = s := rfl
  unfold fitN
  rw [h1, h2, h3]
  by_cases h : isPath s = true
  · simp [h]
  · simp [h]
theorem at_path {n j : Nat} (hn : 1 ≤ n) (h1 : n ≤ 260) (h : j < n + 9) : isPath (atF n j) = decide (j < n + 7) := by
  unfold atF
  split
  · rw [deep_path j (by omega) 0 (by decide)]
    exact decide_eq_decide.2 (by omega)
  · rw [deep_path (n - 1) (by omega) (j + 1 - n) (by omega)]
    exact decide_eq_decide.2 (by omega)
theorem at_cmp {n j : Nat} (hn : 1 ≤ n) (h1 : n ≤ 260) (h : j + 1 < n + 9) : cmpL (partsP (atF n j)) (partsP (atF n (j + 1))) = -1 := by
  unfold atF
  by_cases h2 : j + 1 < n
  · rw [if_pos (by omega), if_pos h2]
    exact row_cmp j (by omega)
  · by_cases h3 : j < n
    · obtain rfl : n = j + 1 := by omega
      rw [if_pos h3, if_neg h2, show j + 1 - 1 = j by omega, show j + 1 + 1 - (j + 1) = 0 + 1 by omega]
      exact deep_cmp j (by omega) 0 (by decide)
    · rw [if_neg h3, if_neg h2, show j + 1 + 1 - n = (j + 1 - n) + 1 by omega]
      exact deep_cmp (n - 1) (by omega) (j + 1 - n) (by omega)
theorem at_par {n j : Nat} (hn : 1 ≤ n) (h1 : n ≤ 260) (h : j < n + 9) : (parentP (atF n j)).size = 0 ∨ (n ≤ j ∧ parentP (atF n j) = atF n (j - 1)) := by
  unfold atF
  by_cases h2 : j < n
  · rw [if_pos h2]
    exact .inl (row_par j (by omega))
  · refine .inr ⟨by omega, ?_⟩
    rw [if_neg h2, show j + 1 - n = (j - n) + 1 by omega, deep_par (n - 1) (by omega) (j - n) (by omega)]
    by_cases h3 : j - 1 < n
    · obtain rfl : j = n := by omega
      rw [if_pos h3, Nat.sub_self]
    · rw [if_neg h3, show j - 1 + 1 - n = j - n by omega]
theorem step_full {n j : Nat} (hn : 1 ≤ n) (h1 : n ≤ 260) (h : j < n + 9) : stepN ((List.range j).map (fF n)) (fF n j) = if j < n + 7 then 0 else 11 := by
  have hfit : fitN (fF n j) = if j < n + 7 then 0 else 11 := by
    unfold fF
    rw [fit_fol, at_path hn h1 h]
    simp only [decide_eq_true_eq]
  unfold stepN
  rw [hfit]
  by_cases h2 : j < n + 7
  · rw [if_pos h2, if_neg (by simp), if_neg ?_, if_neg ?_]
    · have hp : parentP (fF n j).at_ = parentP (atF n j) := rfl
      rw [hp]
      unfold thereN
      rcases at_par hn h1 h with h3 | ⟨h3, h4⟩
      · rw [h3]; simp
      · have : ((List.range j).map (fF n)).any (fun m => decide (m.kind = 1) && decide (m.at_ = parentP (atF n j))) = true := by
          rw [List.any_eq_true]
          refine ⟨fF n (j - 1), List.mem_map.2 ⟨j - 1, List.mem_range.2 (by omega), rfl⟩, ?_⟩
          rw [h4]
          have e1 : (fF n (j - 1)).kind = 1 := rfl
          have e2 : (fF n (j - 1)).at_ = atF n (j - 1) := rfl
          rw [e1, e2]
          simp
        rw [this]; simp
    · cases j with
      | zero => simp
      | succ j =>
        rw [List.range_succ, List.map_append, List.map_cons, List.map_nil, List.getLast?_append, List.getLast?_singleton, Option.some_or]
        have e : cmpL (partsP (fF n j).at_) (partsP (fF n (j + 1)).at_) = -1 := at_cmp hn h1 h
        simp only [e]
        decide
  · rw [if_neg h2, if_pos (by decide)]
def lstF (n deep : Nat) : List Nr := (List.range (n + deep - 1)).map (fF n)
def wantF (n deep : Nat) : Nat := if 200 < n + deep - 1 then 2 else if 8 < deep then 11 else 0
theorem chk_full {n deep : Nat} (hn : 1 ≤ n) (h1 : n ≤ 260) (hd : 1 ≤ deep) (h2 : deep ≤ 10) : chkN (lstF n deep) = wantF n deep := by
  unfold chkN wantF lstF
  rw [List.length_map, List.length_range]
  by_cases h3 : 200 < n + deep - 1
  · rw [if_pos h3, if_pos h3]
  · rw [if_neg h3, if_neg h3]
    by_cases h4 : 8 < deep
    · rw [if_pos h4]
      have e : List.range (n + deep - 1) = List.range' 0 (n + 7) ++ (n + 7) :: List.range' (n + 7 + 1) (deep - 9) := by
        have e2 : List.range' 0 (n + deep - 1) = List.range' 0 (n + 7) ++ List.range' (0 + (n + 7)) (deep - 9 + 1) := by
          rw [List.range'_append_1]
          congr 1
          omega
        rw [List.range_eq_range', e2, Nat.zero_add, show List.range' (n + 7) (deep - 9 + 1) = (n + 7) :: List.range' (n + 7 + 1) (deep - 9) from List.range'_succ ..]
      have h5 := go_run (fF n) ((fF n (n + 7)) :: (List.range' (n + 7 + 1) (deep - 9)).map (fF n)) (n + 7) 0 fun i _ hi => by rw [step_full hn h1 (by omega), if_pos (by omega)]
      rw [Nat.zero_add] at h5
      rw [e, List.map_append, List.map_cons]
      refine Eq.trans h5 ?_
      have hs : stepN ((List.range (n + 7)).map (fF n)) (fF n (n + 7)) = 11 := by
        rw [step_full hn h1 (by omega)]
        exact if_neg (by omega)
      rw [goN, hs, if_pos (by decide)]
    · rw [if_neg h4]
      have h5 := go_run (fF n) [] (n + deep - 1) 0 fun i _ hi => by rw [step_full hn h1 (by omega), if_pos (by omega)]
      rw [List.append_nil, ← List.range_eq_range'] at h5
      exact h5
theorem varL_pos (n : Nat) : 1 ≤ (varL n).length := (varF_len 10 n).1
theorem deepF_size (i k : Nat) : 2 ≤ (deepF i k).size := by
  show 2 ≤ (nmL i ++ sxL k).toArray.size
  simp [nmL]
theorem body_full (n : Nat) : ∀ (l : List Nat), 6 * l.length ≤ (bodyN (l.map (fF n))).length
  | [] => Nat.zero_le _
  | j :: r => by
    have ih := body_full n r
    have e : bodyN ((j :: r).map (fF n)) = txtN (fF n j) ++ bodyN (r.map (fF n)) := rfl
    rw [e, List.length_append, List.length_cons]
    have h1 : 6 ≤ (txtN (fF n j)).length := by
      unfold txtN
      rw [tailN_1 rfl]
      have h2 : 2 ≤ (fF n j).at_.size := by
        unfold fF folN1 atF
        simp only
        split
        · exact deepF_size _ _
        · exact deepF_size _ _
      have v1 := varL_pos (fF n j).kind.toNat
      have v2 := varL_pos (fF n j).mode.toNat
      have v3 := varL_pos (fF n j).time.toNat
      have v4 := varL_pos (fF n j).at_.size
      unfold textL
      simp only [List.length_append, List.append_nil, ba_len]
      omega
    omega
theorem enc_full {n deep : Nat} (hn : 1 ≤ n) (hd : 1 ≤ deep) : 5 * n < (bs (encN (lstF n deep))).size := by
  rw [bs_size]
  unfold encN lstF
  have h := body_full n (List.range (n + deep - 1))
  rw [List.length_range] at h
  rw [List.length_append]
  omega
end Go.Proofs.YtaoejgnfoecpfaaDoor
