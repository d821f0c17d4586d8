/- A tree's items: their form. -/
import Derived.Test.YtaoejgnfoecpfaaDoorJu8
import Derived.Test.YtaoejgnfoecpfaaDoorJu10
namespace Go.Proofs.YtaoejgnfoecpfaaDoor
set_option linter.unusedVariables false
set_option linter.unusedSimpArgs false
set_option linter.unusedSectionVars false
open Go.RowKit

def formI (x : Itm) : Bool := decide (0 ≤ x.mode) && decide (x.mode ≤ 511) && decide (0 ≤ x.time) && decide (x.time ≤ 253402300799) && (!decide (x.kind = 1) || decide (x.data.size = 0)) && (!decide (x.kind = 3) || tgt x.data)
/-- an item's error by itself -/
def fitI (x : Itm) : Nat := if x.kind < 1 ∨ 3 < x.kind then 12 else if isPath x.path = false then 11 else if formI x = false then 4 else if 32768 < x.data.size then 2 else 0
/-- the bounds of what came in -/
structure ItB (x : Itm) : Prop where
  path : x.path.size ≤ 140737488355328
  data : x.data.size ≤ 140737488355328
theorem form_cases (x : Itm) : (formI x = false ∧ (x.mode < 0 ∨ (¬ x.mode < 0 ∧ 511 < x.mode) ∨ (¬ x.mode < 0 ∧ ¬ 511 < x.mode ∧ x.time < 0) ∨ (¬ x.mode < 0 ∧ ¬ 511 < x.mode ∧ ¬ x.time < 0 ∧ 253402300799 < x.time))) ∨
    ((¬ x.mode < 0 ∧ ¬ 511 < x.mode ∧ ¬ x.time < 0 ∧ ¬ 253402300799 < x.time) ∧ formI x = ((!decide (x.kind = 1) || decide (x.data.size = 0)) && (!decide (x.kind = 3) || tgt x.data))) := by
  unfold formI
  by_cases h1 : x.mode < 0
  · exact .inl ⟨by rw [decide_eq_false (p := 0 ≤ x.mode) (by omega)]; rfl, .inl h1⟩
  by_cases h2 : 511 < x.mode
  · exact .inl ⟨by rw [decide_eq_false (p := x.mode ≤ 511) (by omega), Bool.and_false]; rfl, .inr (.inl ⟨h1, h2⟩)⟩
  by_cases h3 : x.time < 0
  · exact .inl ⟨by rw [decide_eq_false (p := 0 ≤ x.time) (by omega), Bool.and_false]; rfl, .inr (.inr (.inl ⟨h1, h2, h3⟩))⟩
  by_cases h4 : 253402300799 < x.time
  · exact .inl ⟨by rw [decide_eq_false (p := x.time ≤ 253402300799) (by omega), Bool.and_false]; rfl, .inr (.inr (.inr ⟨h1, h2, h3, h4⟩))⟩
  · exact .inr ⟨⟨h1, h2, h3, h4⟩, by rw [decide_eq_true (p := 0 ≤ x.mode) (by omega), decide_eq_true (p := x.mode ≤ 511) (by omega), decide_eq_true (p := 0 ≤ x.time) (by omega), decide_eq_true (p := x.time ≤ 253402300799) (by omega)]; rfl⟩
set_option maxRecDepth 100000 in
set_option maxHeartbeats 3200000 in
theorem wfit_any (x : Itm) (w : World) (he : Env w) (hb : ItB x) :
    Calls Tryd.prog 89 #[.agg #[.string x.path, .int .i64 x.kind, .int .i64 x.mode, .int .i64 x.time, .string x.data]] w fun e w' => e = .returned (.int .i64 (fitI x)) ∧ Below w.heap.size w w' := by
  have HF := Lib.hid (show fitI x = if x.kind < 1 ∨ 3 < x.kind then 12 else if isPath x.path = false then 11 else if formI x = false then 4 else if 32768 < x.data.size then 2 else 0 from rfl)
  have hb0 := (Below.refl w.heap.size w).alloc (Nat.le_refl _) (.cells #[.string x.path, .int .i64 x.kind, .int .i64 x.mode, .int .i64 x.time, .string x.data] 59)
  have HB0 := Lib.hid hb0
  have HK0 := Lib.hid (Blk.new w 59 #[.string x.path, .int .i64 x.kind, .int .i64 x.mode, .int .i64 x.time, .string x.data])
  have HIS := Lib.hid fun W (h : Env W) => pis_big x.path W h hb.path
  have HTG := Lib.hid fun W => target_any x.data W hb.data
  have HE := Lib.hid fun W (hb : Below w.heap.size w W) => he.below hb
  have FC := Lib.hid (form_cases x)
  have hem : x.data.toList.isEmpty = decide (x.data.size = 0) := toList_isEmpty x.data
  have hdz := hb.data
  generalize fitI x = fv at *
  generalize formI x = fo at *
  clear hb he hb0
  obtain ⟨pa, ki, mo, ti, da⟩ := x
  simp only at HF HB0 HK0 HIS HTG FC hem hdz ⊢
  by_cases hk : ki < 1 ∨ 3 < ki
  · have HV := Lib.hid (show fv = 12 by rw [HF.out, if_pos hk])
    rcases (by omega : ki < 1 ∨ (¬ ki < 1 ∧ 3 < ki)) with q1 | ⟨q1, q2⟩
    all_goals
      clear hk
      go_enter Tryd.func89, Tryd.ntmps89
      go_wp2
      go_ret
      exact ⟨ret_int (by rw [HV.out]; rfl), HB0.out⟩
  · have hk1 : ¬ ki < 1 := by omega
    have hk2 : ¬ 3 < ki := by omega
    have HF2 := Lib.hid (HF.out.trans (if_neg hk))
    clear HF
    generalize isPath pa = ip at *
    generalize tgt da = tg at *
    go_enter Tryd.func89, Tryd.ntmps89
    go_wp2_with fail
    refine (HIS.out _ (HE.out _ HB0.out)).mono ?_
    rintro e w2 ⟨rfl, hb2⟩
    have HB2 := Lib.hid (HB0.out.trans (hb2.mono HB0.out.size))
    have HK2 := Lib.hid (HK0.out.below hb2 (by simp))
    clear hb2
    have c1 : w2.cell? ⟨w.heap.size, 1, none⟩ = some (.int .i64 ki) := HK2.out.cell 1
    have c2 : w2.cell? ⟨w.heap.size, 2, none⟩ = some (.int .i64 mo) := HK2.out.cell 2
    have c3 : w2.cell? ⟨w.heap.size, 3, none⟩ = some (.int .i64 ti) := HK2.out.cell 3
    have c4 : w2.cell? ⟨w.heap.size, 4, none⟩ = some (.string da) := HK2.out.cell 4
    cases ip with
    | false =>
      have HV := Lib.hid (show fv = 11 by rw [HF2.out]; rfl)
      go_wp2
      go_ret
      exact ⟨ret_int (by rw [HV.out]; rfl), HB2.out⟩
    | true =>
      have HF3 := Lib.hid (HF2.out.trans (if_neg (by simp)))
      clear HF2
      rcases FC.out with ⟨hf, hq⟩ | ⟨⟨q1, q2, q3, q4⟩, hf⟩
      · have HV := Lib.hid (show fv = 4 by rw [HF3.out, if_pos hf])
        clear hf FC HF3
        rcases hq with q1 | ⟨q1, q2⟩ | ⟨q1, q2, q3⟩ | ⟨q1, q2, q3, q4⟩
        all_goals
          go_wp2
          go_ret
          exact ⟨ret_int (by rw [HV.out]; rfl), HB2.out⟩
      · have HFO := Lib.hid hf
        clear hf FC
        rcases (by omega : ki = 1 ∨ ki = 2 ∨ ki = 3) with hk3 | hk3 | hk3
        · subst hk3
          by_cases hd : da.size = 0
          · have hd1 := decide_eq_true hd
            rw [hd1] at hem
            have HV := Lib.hid (show fv = 0 by
              rw [HF3.out, if_neg ?_, if_neg (by omega)]
              rw [HFO.out, hd1]
              simp)
            have hle : ¬ (32768 : Int) < (da.size : Int) := by omega
            clear hd hd1 HFO HF3
            go_wp2
            go_ret
            exact ⟨ret_int (by rw [HV.out]; rfl), HB2.out⟩
          · have hd1 := decide_eq_false hd
            rw [hd1] at hem
            have HV := Lib.hid (show fv = 4 by
              rw [HF3.out, if_pos ?_]
              rw [HFO.out, hd1]
              simp)
            clear hd hd1 HFO HF3
            go_wp2
            go_ret
            exact ⟨ret_int (by rw [HV.out]; rfl), HB2.out⟩
        · subst hk3
          have hfo : fo = true := by rw [HFO.out]; simp
          by_cases hz : 32768 < da.size
          · have hz1 : (32768 : Int) < (da.size : Int) := by omega
            have HV := Lib.hid (show fv = 2 by rw [HF3.out, if_neg (by rw [hfo]; simp), if_pos hz])
            clear hz hfo HFO HF3
            go_wp2
            go_ret
            exact ⟨ret_int (by rw [HV.out]; rfl), HB2.out⟩
          · have hz1 : ¬ (32768 : Int) < (da.size : Int) := by omega
            have HV := Lib.hid (show fv = 0 by rw [HF3.out, if_neg (by rw [hfo]; simp), if_neg hz])
            clear hz hfo HFO HF3
            go_wp2
            go_ret
            exact ⟨ret_int (by rw [HV.out]; rfl), HB2.out⟩
        · subst hk3
          have HFO2 := Lib.hid (show fo = tg by rw [HFO.out]; simp)
          clear HFO
          go_wp2_with fail
          refine (HTG.out _).mono ?_
          rintro e w3 ⟨rfl, hb3⟩
          have HB3 := Lib.hid (HB2.out.trans (hb3.mono HB2.out.size))
          have c5 : w3.cell? ⟨w.heap.size, 4, none⟩ = some (.string da) := (HK2.out.below hb3 HK2.out.lt).cell 4
          clear hb3
          cases tg with
          | false =>
            have HV := Lib.hid (show fv = 4 by rw [HF3.out, if_pos HFO2.out])
            clear HFO2 HF3
            go_wp2
            go_ret
            exact ⟨ret_int (by rw [HV.out]; rfl), HB3.out⟩
          | true =>
            by_cases hz : 32768 < da.size
            · have hz1 : (32768 : Int) < (da.size : Int) := by omega
              have HV := Lib.hid (show fv = 2 by rw [HF3.out, if_neg (by rw [HFO2.out]; simp), if_pos hz])
              clear hz HFO2 HF3
              go_wp2
              go_ret
              exact ⟨ret_int (by rw [HV.out]; rfl), HB3.out⟩
            · have hz1 : ¬ (32768 : Int) < (da.size : Int) := by omega
              have HV := Lib.hid (show fv = 0 by rw [HF3.out, if_neg (by rw [HFO2.out]; simp), if_neg hz])
              clear hz HFO2 HF3
              go_wp2
              go_ret
              exact ⟨ret_int (by rw [HV.out]; rfl), HB3.out⟩
end Go.Proofs.YtaoejgnfoecpfaaDoor
