/- manifest.Check: printed by wip/gen/mkcheck.py. Manifests: writing, the program's. Manifests: the document's Text. -/
import Derived.Test.YtpeepdkeicgkiaaGreatDoorZt4
import Derived.Deep.RegionHeld3
import Derived.Deep.DeepCutAuto
namespace Go.Proofs.YtpeepdkeicgkiaaGreatDoor
set_option linter.unusedVariables false
set_option linter.unusedSimpArgs false
set_option linter.unusedSectionVars false
open Go.RowKit

set_option maxRecDepth 100000 in
set_option maxHeartbeats 3200000 in
theorem mcheck_any (m : Man) (A : Option Addr) (c : Nat) (w : World) (he : Env w) (hst : StrsA w w.heap.size A m.chunks) (hb : ManB m) :
    Calls Tryz.prog 39 #[manV m A c] w fun e w' => e = .returned (.int .i64 (errI (goodM m))) ∧ Below w.heap.size w w' := by
  have HE := Lib.hid fun W (hb : Below w.heap.size w W) => he.below hb
  obtain ⟨tm, tag, par, sz, l⟩ := m
  obtain ⟨q1, q2, q3, q4, q5, q6, q7⟩ := hb
  unfold manV
  simp only at q1 q2 q3 q4 q5 q6 q7 hst ⊢
  have HG := Lib.hid (show goodM ⟨tm, tag, par, sz, l⟩ = (decide (0 ≤ tm ∧ tm ≤ 253402300799) && (decide (tag.size = 0) || nameOk tag) && (decide (par.size = 0) || isNameD par) && decide (1 ≤ sz ∧ sz ≤ 4194304 ∧ 1 ≤ l.length ∧ (l.length : Int) ≤ sz) && l.all fun c => decide (c.size = 32)) from rfl)
  have hte := toList_isEmpty tag
  have hpe := toList_isEmpty par
  have HN := Lib.hid fun W (h : Env W) => pname_bigM tag W h q5
  have HD := Lib.hid fun W => dis_any par W q6
  have HST := Lib.hid hst
  have HB0 := Lib.hid ((Below.refl w.heap.size w).alloc (Nat.le_refl _) (.cells #[.int .i64 tm, .string tag, .string par, .int .i64 sz, .slice A l.length c] 32))
  have HBL := Lib.hid (Blk.new w 32 #[.int .i64 tm, .string tag, .string par, .int .i64 sz, .slice A l.length c])
  clear hst he
  generalize hgd : goodM ⟨tm, tag, par, sz, l⟩ = gd at *
  clear hgd
  by_cases h1 : 0 ≤ tm ∧ tm ≤ 253402300799
  · rw [decide_eq_true h1, Bool.true_and] at HG
    obtain ⟨t1, t2⟩ := h1
    have t1' : ¬ tm < 0 := by omega
    have t2' : ¬ 253402300799 < tm := by omega
    by_cases ht : tag.size = 0
    · rw [decide_eq_true ht] at hte HG
      clear ht
      simp only [Bool.true_or, Bool.true_and] at HG
      by_cases hp : par.size = 0
      · rw [decide_eq_true hp] at hpe HG
        clear hp
        simp only [Bool.true_or, Bool.true_and] at HG
        by_cases hz : 1 ≤ sz ∧ sz ≤ 4194304 ∧ 1 ≤ l.length ∧ (l.length : Int) ≤ sz
        · rw [decide_eq_true hz, Bool.true_and] at HG
          obtain ⟨z1, z2, z3, z4⟩ := hz
          have z1' : ¬ sz < 1 := by omega
          have z2' : ¬ 4194304 < sz := by omega
          have z3' : ¬ (l.length : Int) < 1 := by omega
          have z4' : ¬ sz < (l.length : Int) := by omega
          go_enter Tryz.func39, Tryz.ntmps39
          obtain ⟨bk, off, rfl, hbk, hcell⟩ := HST.out (by omega)
          have HC := Lib.hid fun (j : Nat) (u : ByteArray) (hj : l[j]? = some u) => (show (w.alloc (.cells #[.int .i64 tm, .string tag, .string par, .int .i64 sz, .slice (some ⟨bk, off, none⟩) l.length c] 32)).cell? ⟨bk, off + j, none⟩ = some (.string u) from (HB0.out.cell (p := ⟨bk, off + j, none⟩) hbk).trans (hcell j u hj))
          clear hcell
          go_wp2
          go_loop [60] (fun t => ∃ k : Nat, t = .int .i64 (k : Nat) ∧ k ≤ l.length ∧ (l.drop k).all (fun c => decide (c.size = 32)) = l.all (fun c => decide (c.size = 32))) (fun t => l.length - (intOf t).toNat)
          case atStart => exact ⟨0, rfl, Nat.zero_le _, rfl⟩
          case round =>
            obtain ⟨k, rfl, hk, hn⟩ := hrel
            have HNN := Lib.hid hn
            clear hn
            by_cases hkl : k < l.length
            · have hcx := HC.out k l[k] (List.getElem?_eq_getElem hkl)
              have HDX := Lib.hid (List.drop_eq_getElem_cons hkl)
              generalize l[k] = x at *
              by_cases h32 : x.size = 32
              · have HX := Lib.hid (show (x :: l.drop (k + 1)).all (fun c => decide (c.size = 32)) = (l.drop (k + 1)).all (fun c => decide (c.size = 32)) by rw [List.all_cons, decide_eq_true h32, Bool.true_and])
                have hq : ((x.size : Int) != 32) = false := by simp; omega
                clear h32
                go_wp2
                go_round
                case rel => exact ⟨k + 1, by go_num, by omega, by rw [← HX.out, ← HDX.out]; exact HNN.out⟩
                case measure => simp [intOf]; omega
              · have HX := Lib.hid (show gd = false by rw [HG.out, ← HNN.out, HDX.out, List.all_cons, decide_eq_false h32]; rfl)
                have hq : ((x.size : Int) != 32) = true := by simp; omega
                clear h32
                go_wp2
                go_ret
                exact ⟨ret_int (by rw [HX.out]; rfl), HB0.out⟩
            · have HX := Lib.hid (show gd = true by rw [HG.out, ← HNN.out, List.drop_of_length_le (by omega)]; rfl)
              go_wp2
              go_ret
              exact ⟨ret_int (by rw [HX.out]; rfl), HB0.out⟩
        · have HX := Lib.hid (show gd = false by rw [HG.out, decide_eq_false hz]; simp)
          rcases (by omega : sz < 1 ∨ (¬ sz < 1 ∧ 4194304 < sz) ∨ (¬ sz < 1 ∧ ¬ 4194304 < sz ∧ (l.length : Int) < 1) ∨ (¬ sz < 1 ∧ ¬ 4194304 < sz ∧ ¬ (l.length : Int) < 1 ∧ sz < (l.length : Int))) with g | ⟨g1, g⟩ | ⟨g1, g2, g⟩ | ⟨g1, g2, g3, g⟩
          all_goals
            clear hz
            go_enter Tryz.func39, Tryz.ntmps39
            go_wp2
            go_ret
            exact ⟨ret_int (by rw [HX.out]; rfl), HB0.out⟩
      · rw [decide_eq_false hp] at hpe HG
        clear hp
        simp only [Bool.false_or] at HG
        cases hd : isNameD par with
        | false =>
          rw [hd] at HG
          rw [hd] at HD
          clear hd
          have HX := Lib.hid (show gd = false by rw [HG.out]; simp)
          go_enter Tryz.func39, Tryz.ntmps39
          go_wp2_with fail
          refine (HD.out _).mono ?_
          rintro e w2 ⟨rfl, hb2⟩
          have HB2 := Lib.hid (HB0.out.trans (hb2.mono HB0.out.size))
          have HBL2 := Lib.hid (HBL.out.below hb2 (by simp))
          clear hb2
          have k0w2 : w2.cell? ⟨w.heap.size, 0, none⟩ = some (.int .i64 tm) := HBL2.out.cell 0
          have k1w2 : w2.cell? ⟨w.heap.size, 1, none⟩ = some (.string tag) := HBL2.out.cell 1
          have k2w2 : w2.cell? ⟨w.heap.size, 2, none⟩ = some (.string par) := HBL2.out.cell 2
          have k3w2 : w2.cell? ⟨w.heap.size, 3, none⟩ = some (.int .i64 sz) := HBL2.out.cell 3
          have k4w2 : w2.cell? ⟨w.heap.size, 4, none⟩ = some (.slice A l.length c) := HBL2.out.cell 4
          go_wp2
          go_ret
          exact ⟨ret_int (by rw [HX.out]; rfl), HB2.out⟩
        | true =>
          rw [hd, Bool.true_and] at HG
          rw [hd] at HD
          clear hd
          by_cases hz : 1 ≤ sz ∧ sz ≤ 4194304 ∧ 1 ≤ l.length ∧ (l.length : Int) ≤ sz
          · rw [decide_eq_true hz, Bool.true_and] at HG
            obtain ⟨z1, z2, z3, z4⟩ := hz
            have z1' : ¬ sz < 1 := by omega
            have z2' : ¬ 4194304 < sz := by omega
            have z3' : ¬ (l.length : Int) < 1 := by omega
            have z4' : ¬ sz < (l.length : Int) := by omega
            go_enter Tryz.func39, Tryz.ntmps39
            go_wp2_with fail
            refine (HD.out _).mono ?_
            rintro e w2 ⟨rfl, hb2⟩
            have HB2 := Lib.hid (HB0.out.trans (hb2.mono HB0.out.size))
            have HBL2 := Lib.hid (HBL.out.below hb2 (by simp))
            clear hb2
            have k0w2 : w2.cell? ⟨w.heap.size, 0, none⟩ = some (.int .i64 tm) := HBL2.out.cell 0
            have k1w2 : w2.cell? ⟨w.heap.size, 1, none⟩ = some (.string tag) := HBL2.out.cell 1
            have k2w2 : w2.cell? ⟨w.heap.size, 2, none⟩ = some (.string par) := HBL2.out.cell 2
            have k3w2 : w2.cell? ⟨w.heap.size, 3, none⟩ = some (.int .i64 sz) := HBL2.out.cell 3
            have k4w2 : w2.cell? ⟨w.heap.size, 4, none⟩ = some (.slice A l.length c) := HBL2.out.cell 4
            obtain ⟨bk, off, rfl, hbk, hcell⟩ := HST.out (by omega)
            have HC := Lib.hid fun (j : Nat) (u : ByteArray) (hj : l[j]? = some u) => (show w2.cell? ⟨bk, off + j, none⟩ = some (.string u) from (HB2.out.cell (p := ⟨bk, off + j, none⟩) hbk).trans (hcell j u hj))
            clear hcell
            go_wp2
            go_loop [60] (fun t => ∃ k : Nat, t = .int .i64 (k : Nat) ∧ k ≤ l.length ∧ (l.drop k).all (fun c => decide (c.size = 32)) = l.all (fun c => decide (c.size = 32))) (fun t => l.length - (intOf t).toNat)
            case atStart => exact ⟨0, rfl, Nat.zero_le _, rfl⟩
            case round =>
              obtain ⟨k, rfl, hk, hn⟩ := hrel
              have HNN := Lib.hid hn
              clear hn
              by_cases hkl : k < l.length
              · have hcx := HC.out k l[k] (List.getElem?_eq_getElem hkl)
                have HDX := Lib.hid (List.drop_eq_getElem_cons hkl)
                generalize l[k] = x at *
                by_cases h32 : x.size = 32
                · have HX := Lib.hid (show (x :: l.drop (k + 1)).all (fun c => decide (c.size = 32)) = (l.drop (k + 1)).all (fun c => decide (c.size = 32)) by rw [List.all_cons, decide_eq_true h32, Bool.true_and])
                  have hq : ((x.size : Int) != 32) = false := by simp; omega
                  clear h32
                  go_wp2
                  go_round
                  case rel => exact ⟨k + 1, by go_num, by omega, by rw [← HX.out, ← HDX.out]; exact HNN.out⟩
                  case measure => simp [intOf]; omega
                · have HX := Lib.hid (show gd = false by rw [HG.out, ← HNN.out, HDX.out, List.all_cons, decide_eq_false h32]; rfl)
                  have hq : ((x.size : Int) != 32) = true := by simp; omega
                  clear h32
                  go_wp2
                  go_ret
                  exact ⟨ret_int (by rw [HX.out]; rfl), HB2.out⟩
              · have HX := Lib.hid (show gd = true by rw [HG.out, ← HNN.out, List.drop_of_length_le (by omega)]; rfl)
                go_wp2
                go_ret
                exact ⟨ret_int (by rw [HX.out]; rfl), HB2.out⟩
          · have HX := Lib.hid (show gd = false by rw [HG.out, decide_eq_false hz]; simp)
            rcases (by omega : sz < 1 ∨ (¬ sz < 1 ∧ 4194304 < sz) ∨ (¬ sz < 1 ∧ ¬ 4194304 < sz ∧ (l.length : Int) < 1) ∨ (¬ sz < 1 ∧ ¬ 4194304 < sz ∧ ¬ (l.length : Int) < 1 ∧ sz < (l.length : Int))) with g | ⟨g1, g⟩ | ⟨g1, g2, g⟩ | ⟨g1, g2, g3, g⟩
            all_goals
              clear hz
              go_enter Tryz.func39, Tryz.ntmps39
              go_wp2_with fail
              refine (HD.out _).mono ?_
              rintro e w2 ⟨rfl, hb2⟩
              have HB2 := Lib.hid (HB0.out.trans (hb2.mono HB0.out.size))
              have HBL2 := Lib.hid (HBL.out.below hb2 (by simp))
              clear hb2
              have k0w2 : w2.cell? ⟨w.heap.size, 0, none⟩ = some (.int .i64 tm) := HBL2.out.cell 0
              have k1w2 : w2.cell? ⟨w.heap.size, 1, none⟩ = some (.string tag) := HBL2.out.cell 1
              have k2w2 : w2.cell? ⟨w.heap.size, 2, none⟩ = some (.string par) := HBL2.out.cell 2
              have k3w2 : w2.cell? ⟨w.heap.size, 3, none⟩ = some (.int .i64 sz) := HBL2.out.cell 3
              have k4w2 : w2.cell? ⟨w.heap.size, 4, none⟩ = some (.slice A l.length c) := HBL2.out.cell 4
              go_wp2
              go_ret
              exact ⟨ret_int (by rw [HX.out]; rfl), HB2.out⟩
    · rw [decide_eq_false ht] at hte HG
      clear ht
      simp only [Bool.false_or] at HG
      cases hn : nameOk tag with
      | false =>
        rw [hn] at HG HN
        have HX := Lib.hid (show gd = false by rw [HG.out]; simp)
        clear hn
        go_enter Tryz.func39, Tryz.ntmps39
        go_wp2_with fail
        refine (HN.out _ (HE.out _ HB0.out)).mono ?_
        rintro e w1 ⟨rfl, hb1⟩
        go_wp2
        go_ret
        exact ⟨ret_int (by rw [HX.out]; rfl), HB0.out.trans (hb1.mono HB0.out.size)⟩
      | true =>
        rw [hn, Bool.true_and] at HG
        rw [hn] at HN
        clear hn
        by_cases hp : par.size = 0
        · rw [decide_eq_true hp] at hpe HG
          clear hp
          simp only [Bool.true_or, Bool.true_and] at HG
          by_cases hz : 1 ≤ sz ∧ sz ≤ 4194304 ∧ 1 ≤ l.length ∧ (l.length : Int) ≤ sz
          · rw [decide_eq_true hz, Bool.true_and] at HG
            obtain ⟨z1, z2, z3, z4⟩ := hz
            have z1' : ¬ sz < 1 := by omega
            have z2' : ¬ 4194304 < sz := by omega
            have z3' : ¬ (l.length : Int) < 1 := by omega
            have z4' : ¬ sz < (l.length : Int) := by omega
            go_enter Tryz.func39, Tryz.ntmps39
            go_wp2_with fail
            refine (HN.out _ (HE.out _ HB0.out)).mono ?_
            rintro e w1 ⟨rfl, hb1⟩
            have HB1 := Lib.hid (HB0.out.trans (hb1.mono HB0.out.size))
            have HBL1 := Lib.hid (HBL.out.below hb1 (by simp))
            clear hb1
            have k0w1 : w1.cell? ⟨w.heap.size, 0, none⟩ = some (.int .i64 tm) := HBL1.out.cell 0
            have k1w1 : w1.cell? ⟨w.heap.size, 1, none⟩ = some (.string tag) := HBL1.out.cell 1
            have k2w1 : w1.cell? ⟨w.heap.size, 2, none⟩ = some (.string par) := HBL1.out.cell 2
            have k3w1 : w1.cell? ⟨w.heap.size, 3, none⟩ = some (.int .i64 sz) := HBL1.out.cell 3
            have k4w1 : w1.cell? ⟨w.heap.size, 4, none⟩ = some (.slice A l.length c) := HBL1.out.cell 4
            obtain ⟨bk, off, rfl, hbk, hcell⟩ := HST.out (by omega)
            have HC := Lib.hid fun (j : Nat) (u : ByteArray) (hj : l[j]? = some u) => (show w1.cell? ⟨bk, off + j, none⟩ = some (.string u) from (HB1.out.cell (p := ⟨bk, off + j, none⟩) hbk).trans (hcell j u hj))
            clear hcell
            go_wp2
            go_loop [60] (fun t => ∃ k : Nat, t = .int .i64 (k : Nat) ∧ k ≤ l.length ∧ (l.drop k).all (fun c => decide (c.size = 32)) = l.all (fun c => decide (c.size = 32))) (fun t => l.length - (intOf t).toNat)
            case atStart => exact ⟨0, rfl, Nat.zero_le _, rfl⟩
            case round =>
              obtain ⟨k, rfl, hk, hn⟩ := hrel
              have HNN := Lib.hid hn
              clear hn
              by_cases hkl : k < l.length
              · have hcx := HC.out k l[k] (List.getElem?_eq_getElem hkl)
                have HDX := Lib.hid (List.drop_eq_getElem_cons hkl)
                generalize l[k] = x at *
                by_cases h32 : x.size = 32
                · have HX := Lib.hid (show (x :: l.drop (k + 1)).all (fun c => decide (c.size = 32)) = (l.drop (k + 1)).all (fun c => decide (c.size = 32)) by rw [List.all_cons, decide_eq_true h32, Bool.true_and])
                  have hq : ((x.size : Int) != 32) = false := by simp; omega
                  clear h32
                  go_wp2
                  go_round
                  case rel => exact ⟨k + 1, by go_num, by omega, by rw [← HX.out, ← HDX.out]; exact HNN.out⟩
                  case measure => simp [intOf]; omega
                · have HX := Lib.hid (show gd = false by rw [HG.out, ← HNN.out, HDX.out, List.all_cons, decide_eq_false h32]; rfl)
                  have hq : ((x.size : Int) != 32) = true := by simp; omega
                  clear h32
                  go_wp2
                  go_ret
                  exact ⟨ret_int (by rw [HX.out]; rfl), HB1.out⟩
              · have HX := Lib.hid (show gd = true by rw [HG.out, ← HNN.out, List.drop_of_length_le (by omega)]; rfl)
                go_wp2
                go_ret
                exact ⟨ret_int (by rw [HX.out]; rfl), HB1.out⟩
          · have HX := Lib.hid (show gd = false by rw [HG.out, decide_eq_false hz]; simp)
            rcases (by omega : sz < 1 ∨ (¬ sz < 1 ∧ 4194304 < sz) ∨ (¬ sz < 1 ∧ ¬ 4194304 < sz ∧ (l.length : Int) < 1) ∨ (¬ sz < 1 ∧ ¬ 4194304 < sz ∧ ¬ (l.length : Int) < 1 ∧ sz < (l.length : Int))) with g | ⟨g1, g⟩ | ⟨g1, g2, g⟩ | ⟨g1, g2, g3, g⟩
            all_goals
              clear hz
              go_enter Tryz.func39, Tryz.ntmps39
              go_wp2_with fail
              refine (HN.out _ (HE.out _ HB0.out)).mono ?_
              rintro e w1 ⟨rfl, hb1⟩
              have HB1 := Lib.hid (HB0.out.trans (hb1.mono HB0.out.size))
              have HBL1 := Lib.hid (HBL.out.below hb1 (by simp))
              clear hb1
              have k0w1 : w1.cell? ⟨w.heap.size, 0, none⟩ = some (.int .i64 tm) := HBL1.out.cell 0
              have k1w1 : w1.cell? ⟨w.heap.size, 1, none⟩ = some (.string tag) := HBL1.out.cell 1
              have k2w1 : w1.cell? ⟨w.heap.size, 2, none⟩ = some (.string par) := HBL1.out.cell 2
              have k3w1 : w1.cell? ⟨w.heap.size, 3, none⟩ = some (.int .i64 sz) := HBL1.out.cell 3
              have k4w1 : w1.cell? ⟨w.heap.size, 4, none⟩ = some (.slice A l.length c) := HBL1.out.cell 4
              go_wp2
              go_ret
              exact ⟨ret_int (by rw [HX.out]; rfl), HB1.out⟩
        · rw [decide_eq_false hp] at hpe HG
          clear hp
          simp only [Bool.false_or] at HG
          cases hd : isNameD par with
          | false =>
            rw [hd] at HG
            rw [hd] at HD
            clear hd
            have HX := Lib.hid (show gd = false by rw [HG.out]; simp)
            go_enter Tryz.func39, Tryz.ntmps39
            go_wp2_with fail
            refine (HN.out _ (HE.out _ HB0.out)).mono ?_
            rintro e w1 ⟨rfl, hb1⟩
            have HB1 := Lib.hid (HB0.out.trans (hb1.mono HB0.out.size))
            have HBL1 := Lib.hid (HBL.out.below hb1 (by simp))
            clear hb1
            have k0w1 : w1.cell? ⟨w.heap.size, 0, none⟩ = some (.int .i64 tm) := HBL1.out.cell 0
            have k1w1 : w1.cell? ⟨w.heap.size, 1, none⟩ = some (.string tag) := HBL1.out.cell 1
            have k2w1 : w1.cell? ⟨w.heap.size, 2, none⟩ = some (.string par) := HBL1.out.cell 2
            have k3w1 : w1.cell? ⟨w.heap.size, 3, none⟩ = some (.int .i64 sz) := HBL1.out.cell 3
            have k4w1 : w1.cell? ⟨w.heap.size, 4, none⟩ = some (.slice A l.length c) := HBL1.out.cell 4
            go_wp2_with fail
            refine (HD.out _).mono ?_
            rintro e w2 ⟨rfl, hb2⟩
            have HB2 := Lib.hid (HB1.out.trans (hb2.mono HB1.out.size))
            have HBL2 := Lib.hid (HBL1.out.below hb2 (by exact HBL1.out.lt))
            clear hb2
            have k0w2 : w2.cell? ⟨w.heap.size, 0, none⟩ = some (.int .i64 tm) := HBL2.out.cell 0
            have k1w2 : w2.cell? ⟨w.heap.size, 1, none⟩ = some (.string tag) := HBL2.out.cell 1
            have k2w2 : w2.cell? ⟨w.heap.size, 2, none⟩ = some (.string par) := HBL2.out.cell 2
            have k3w2 : w2.cell? ⟨w.heap.size, 3, none⟩ = some (.int .i64 sz) := HBL2.out.cell 3
            have k4w2 : w2.cell? ⟨w.heap.size, 4, none⟩ = some (.slice A l.length c) := HBL2.out.cell 4
            go_wp2
            go_ret
            exact ⟨ret_int (by rw [HX.out]; rfl), HB2.out⟩
          | true =>
            rw [hd, Bool.true_and] at HG
            rw [hd] at HD
            clear hd
            by_cases hz : 1 ≤ sz ∧ sz ≤ 4194304 ∧ 1 ≤ l.length ∧ (l.length : Int) ≤ sz
            · rw [decide_eq_true hz, Bool.true_and] at HG
              obtain ⟨z1, z2, z3, z4⟩ := hz
              have z1' : ¬ sz < 1 := by omega
              have z2' : ¬ 4194304 < sz := by omega
              have z3' : ¬ (l.length : Int) < 1 := by omega
              have z4' : ¬ sz < (l.length : Int) := by omega
              go_enter Tryz.func39, Tryz.ntmps39
              go_wp2_with fail
              refine (HN.out _ (HE.out _ HB0.out)).mono ?_
              rintro e w1 ⟨rfl, hb1⟩
              have HB1 := Lib.hid (HB0.out.trans (hb1.mono HB0.out.size))
              have HBL1 := Lib.hid (HBL.out.below hb1 (by simp))
              clear hb1
              have k0w1 : w1.cell? ⟨w.heap.size, 0, none⟩ = some (.int .i64 tm) := HBL1.out.cell 0
              have k1w1 : w1.cell? ⟨w.heap.size, 1, none⟩ = some (.string tag) := HBL1.out.cell 1
              have k2w1 : w1.cell? ⟨w.heap.size, 2, none⟩ = some (.string par) := HBL1.out.cell 2
              have k3w1 : w1.cell? ⟨w.heap.size, 3, none⟩ = some (.int .i64 sz) := HBL1.out.cell 3
              have k4w1 : w1.cell? ⟨w.heap.size, 4, none⟩ = some (.slice A l.length c) := HBL1.out.cell 4
              go_wp2_with fail
              refine (HD.out _).mono ?_
              rintro e w2 ⟨rfl, hb2⟩
              have HB2 := Lib.hid (HB1.out.trans (hb2.mono HB1.out.size))
              have HBL2 := Lib.hid (HBL1.out.below hb2 (by exact HBL1.out.lt))
              clear hb2
              have k0w2 : w2.cell? ⟨w.heap.size, 0, none⟩ = some (.int .i64 tm) := HBL2.out.cell 0
              have k1w2 : w2.cell? ⟨w.heap.size, 1, none⟩ = some (.string tag) := HBL2.out.cell 1
              have k2w2 : w2.cell? ⟨w.heap.size, 2, none⟩ = some (.string par) := HBL2.out.cell 2
              have k3w2 : w2.cell? ⟨w.heap.size, 3, none⟩ = some (.int .i64 sz) := HBL2.out.cell 3
              have k4w2 : w2.cell? ⟨w.heap.size, 4, none⟩ = some (.slice A l.length c) := HBL2.out.cell 4
              obtain ⟨bk, off, rfl, hbk, hcell⟩ := HST.out (by omega)
              have HC := Lib.hid fun (j : Nat) (u : ByteArray) (hj : l[j]? = some u) => (show w2.cell? ⟨bk, off + j, none⟩ = some (.string u) from (HB2.out.cell (p := ⟨bk, off + j, none⟩) hbk).trans (hcell j u hj))
              clear hcell
              go_wp2
              go_loop [60] (fun t => ∃ k : Nat, t = .int .i64 (k : Nat) ∧ k ≤ l.length ∧ (l.drop k).all (fun c => decide (c.size = 32)) = l.all (fun c => decide (c.size = 32))) (fun t => l.length - (intOf t).toNat)
              case atStart => exact ⟨0, rfl, Nat.zero_le _, rfl⟩
              case round =>
                obtain ⟨k, rfl, hk, hn⟩ := hrel
                have HNN := Lib.hid hn
                clear hn
                by_cases hkl : k < l.length
                · have hcx := HC.out k l[k] (List.getElem?_eq_getElem hkl)
                  have HDX := Lib.hid (List.drop_eq_getElem_cons hkl)
                  generalize l[k] = x at *
                  by_cases h32 : x.size = 32
                  · have HX := Lib.hid (show (x :: l.drop (k + 1)).all (fun c => decide (c.size = 32)) = (l.drop (k + 1)).all (fun c => decide (c.size = 32)) by rw [List.all_cons, decide_eq_true h32, Bool.true_and])
                    have hq : ((x.size : Int) != 32) = false := by simp; omega
                    clear h32
                    go_wp2
                    go_round
                    case rel => exact ⟨k + 1, by go_num, by omega, by rw [← HX.out, ← HDX.out]; exact HNN.out⟩
                    case measure => simp [intOf]; omega
                  · have HX := Lib.hid (show gd = false by rw [HG.out, ← HNN.out, HDX.out, List.all_cons, decide_eq_false h32]; rfl)
                    have hq : ((x.size : Int) != 32) = true := by simp; omega
                    clear h32
                    go_wp2
                    go_ret
                    exact ⟨ret_int (by rw [HX.out]; rfl), HB2.out⟩
                · have HX := Lib.hid (show gd = true by rw [HG.out, ← HNN.out, List.drop_of_length_le (by omega)]; rfl)
                  go_wp2
                  go_ret
                  exact ⟨ret_int (by rw [HX.out]; rfl), HB2.out⟩
            · have HX := Lib.hid (show gd = false by rw [HG.out, decide_eq_false hz]; simp)
              rcases (by omega : sz < 1 ∨ (¬ sz < 1 ∧ 4194304 < sz) ∨ (¬ sz < 1 ∧ ¬ 4194304 < sz ∧ (l.length : Int) < 1) ∨ (¬ sz < 1 ∧ ¬ 4194304 < sz ∧ ¬ (l.length : Int) < 1 ∧ sz < (l.length : Int))) with g | ⟨g1, g⟩ | ⟨g1, g2, g⟩ | ⟨g1, g2, g3, g⟩
              all_goals
                clear hz
                go_enter Tryz.func39, Tryz.ntmps39
                go_wp2_with fail
                refine (HN.out _ (HE.out _ HB0.out)).mono ?_
                rintro e w1 ⟨rfl, hb1⟩
                have HB1 := Lib.hid (HB0.out.trans (hb1.mono HB0.out.size))
                have HBL1 := Lib.hid (HBL.out.below hb1 (by simp))
                clear hb1
                have k0w1 : w1.cell? ⟨w.heap.size, 0, none⟩ = some (.int .i64 tm) := HBL1.out.cell 0
                have k1w1 : w1.cell? ⟨w.heap.size, 1, none⟩ = some (.string tag) := HBL1.out.cell 1
                have k2w1 : w1.cell? ⟨w.heap.size, 2, none⟩ = some (.string par) := HBL1.out.cell 2
                have k3w1 : w1.cell? ⟨w.heap.size, 3, none⟩ = some (.int .i64 sz) := HBL1.out.cell 3
                have k4w1 : w1.cell? ⟨w.heap.size, 4, none⟩ = some (.slice A l.length c) := HBL1.out.cell 4
                go_wp2_with fail
                refine (HD.out _).mono ?_
                rintro e w2 ⟨rfl, hb2⟩
                have HB2 := Lib.hid (HB1.out.trans (hb2.mono HB1.out.size))
                have HBL2 := Lib.hid (HBL1.out.below hb2 (by exact HBL1.out.lt))
                clear hb2
                have k0w2 : w2.cell? ⟨w.heap.size, 0, none⟩ = some (.int .i64 tm) := HBL2.out.cell 0
                have k1w2 : w2.cell? ⟨w.heap.size, 1, none⟩ = some (.string tag) := HBL2.out.cell 1
                have k2w2 : w2.cell? ⟨w.heap.size, 2, none⟩ = some (.string par) := HBL2.out.cell 2
                have k3w2 : w2.cell? ⟨w.heap.size, 3, none⟩ = some (.int .i64 sz) := HBL2.out.cell 3
                have k4w2 : w2.cell? ⟨w.heap.size, 4, none⟩ = some (.slice A l.length c) := HBL2.out.cell 4
                go_wp2
                go_ret
                exact ⟨ret_int (by rw [HX.out]; rfl), HB2.out⟩
  · have HX := Lib.hid (show gd = false by rw [HG.out, decide_eq_false h1]; simp)
    rcases (by omega : tm < 0 ∨ (¬ tm < 0 ∧ 253402300799 < tm)) with g | ⟨g1, g⟩
    all_goals
      clear h1
      go_enter Tryz.func39, Tryz.ntmps39
      go_wp2
      go_ret
      exact ⟨ret_int (by rw [HX.out]; rfl), HB0.out⟩
end Go.Proofs.YtpeepdkeicgkiaaGreatDoor
namespace Go.Proofs.YtpeepdkeicgkiaaGreatDoor
set_option linter.unusedVariables false
set_option linter.unusedSimpArgs false
set_option linter.unusedSectionVars false
open Go.RowKit

theorem var_size (x : Nat) : (⟨(varL x).toArray⟩ : ByteArray).size ≤ 11 := by
  have := (varF_len 10 x).2
  show (varL x).toArray.size ≤ 11
  simpa [varL] using this
set_option maxRecDepth 100000 in
set_option maxHeartbeats 400000 in
theorem mtext_any (s : ByteArray) (w : World) (hs : s.size ≤ 140737488355328) : Calls Tryz.prog 41 #[.string s] w fun e w' => e = .returned (.string (bs (textL s))) ∧ Below w.heap.size w w' := by
  have H1 := Lib.hid fun W => var_any s.size W (by omega)
  have hv := var_size s.size
  have HE := Lib.hid (show (⟨(varL s.size).toArray⟩ : ByteArray) ++ s = bs (textL s) by
    apply ba_inj
    rw [bs_list]
    unfold textL
    simp [ByteArray.data_append])
  have hu : IntKind.u64.wrap (s.size : Int) = (s.size : Int) := IntWalk.u64_in _ (by omega)
  generalize (⟨(varL s.size).toArray⟩ : ByteArray) = v at *
  have hz : v.size + s.size ≤ 281474976710656 := by omega
  go_enter Tryz.func41, Tryz.ntmps41
  go_wp2_with fail
  refine (H1.out _).mono ?_
  rintro e w1 ⟨rfl, hb⟩
  go_wp2
  go_ret
  exact ⟨ret_str HE.out, hb⟩
theorem ret_si {k : IntKind} {a b : ByteArray} {c d : Int} (h1 : a = b) (h2 : c = d) : Ending.returned (.tuple #[.string a, .int k c]) = .returned (.tuple #[.string b, .int k d]) := by rw [h1, h2]
/-- what Encode gives -/
def encR (m : Man) : ByteArray × Int := if goodM m = true then (bs (manL m), 0) else (⟨#[]⟩, 4)
theorem join_cat (l : List ByteArray) : Lib.join (l.map (·.data.toList)) (⟨#[]⟩ : ByteArray).data.toList = catL l := by
  unfold Lib.join catL
  have e : (⟨#[]⟩ : ByteArray).data.toList = [] := rfl
  rw [e]
  generalize l.map (·.data.toList) = x
  unfold List.intercalate
  induction x with
  | nil => rfl
  | cons a r ih =>
    cases r with
    | nil => simp
    | cons b r => simp only [List.intersperse_cons_cons, List.flatten_cons, List.nil_append] at ih ⊢; rw [ih]
theorem cat_len (l : List ByteArray) (h : ∀ c ∈ l, c.size = 32) : (catL l).length = 32 * l.length := by
  induction l with
  | nil => rfl
  | cons c l ih =>
    have e : catL (c :: l) = c.data.toList ++ catL l := by simp [catL]
    rw [e, List.length_append, ba_len, h c (by simp), ih (fun x hx => h x (by simp [hx])), List.length_cons]
    omega
/-- five cells held beside a call that makes memory -/
theorem keep5 {w W W' : World} {g : Nat} {a0 a1 a2 a3 a4 : Value} (h : W.cell? ⟨g, 0, none⟩ = some a0 ∧ W.cell? ⟨g, 1, none⟩ = some a1 ∧ W.cell? ⟨g, 2, none⟩ = some a2 ∧ W.cell? ⟨g, 3, none⟩ = some a3 ∧ W.cell? ⟨g, 4, none⟩ = some a4 ∧ Below w.heap.size w W) (hb : Below W.heap.size W W') :
    W'.cell? ⟨g, 0, none⟩ = some a0 ∧ W'.cell? ⟨g, 1, none⟩ = some a1 ∧ W'.cell? ⟨g, 2, none⟩ = some a2 ∧ W'.cell? ⟨g, 3, none⟩ = some a3 ∧ W'.cell? ⟨g, 4, none⟩ = some a4 ∧ Below w.heap.size w W' := by
  obtain ⟨h0, h1, h2, h3, h4, h5⟩ := h
  have hlt := cellLt h0
  exact ⟨(hb.cell (p := ⟨g, 0, none⟩) hlt).trans h0, (hb.cell (p := ⟨g, 1, none⟩) hlt).trans h1, (hb.cell (p := ⟨g, 2, none⟩) hlt).trans h2, (hb.cell (p := ⟨g, 3, none⟩) hlt).trans h3, (hb.cell (p := ⟨g, 4, none⟩) hlt).trans h4, h5.trans (hb.mono h5.size)⟩
theorem keepB {w W : World} {g : Nat} {a0 a1 a2 a3 a4 : Value} (h : W.cell? ⟨g, 0, none⟩ = some a0 ∧ W.cell? ⟨g, 1, none⟩ = some a1 ∧ W.cell? ⟨g, 2, none⟩ = some a2 ∧ W.cell? ⟨g, 3, none⟩ = some a3 ∧ W.cell? ⟨g, 4, none⟩ = some a4 ∧ Below w.heap.size w W) : Below w.heap.size w W := h.2.2.2.2.2
set_option maxRecDepth 100000 in
set_option maxHeartbeats 1600000 in
theorem mencode_any (m : Man) (A : Option Addr) (c : Nat) (w : World) (he : Env w) (hst : StrsA w w.heap.size A m.chunks) (hb : ManB m) (hc : m.chunks.length ≤ c) :
    Calls Tryz.prog 14 #[manV m A c] w fun e w' => e = .returned (.tuple #[.string (encR m).1, .int .i64 (encR m).2]) ∧ Below w.heap.size w w' := by
  have hb0 : Below w.heap.size w (w.alloc (.cells #[.int .i64 m.time, .string m.tag, .string m.parent, .int .i64 m.size, .slice A m.chunks.length c] 32)) := (Below.refl w.heap.size w).alloc (Nat.le_refl _) _
  have hst0 : StrsA (w.alloc (.cells #[.int .i64 m.time, .string m.tag, .string m.parent, .int .i64 m.size, .slice A m.chunks.length c] 32)) (w.alloc (.cells #[.int .i64 m.time, .string m.tag, .string m.parent, .int .i64 m.size, .slice A m.chunks.length c] 32)).heap.size A m.chunks := fun h => by
    obtain ⟨bk, o, h1, h2, h3⟩ := hst h
    exact ⟨bk, o, h1, by simp; omega, fun j u hj => (hb0.cell (p := ⟨bk, o + j, none⟩) h2).trans (h3 j u hj)⟩
  have HCK := Lib.hid (mcheck_any m A c _ (he.below hb0) hst0 hb)
  have HBL := Lib.hid (Blk.new w 32 #[.int .i64 m.time, .string m.tag, .string m.parent, .int .i64 m.size, .slice A m.chunks.length c])
  have HB0 := Lib.hid hb0
  unfold manV at HCK
  clear hst0 hb0
  cases hg : goodM m with
  | false =>
    have HX := Lib.hid (show encR m = (⟨#[]⟩, 4) by unfold encR; rw [hg]; rfl)
    rw [hg] at HCK
    unfold manV
    clear hg
    go_enter Tryz.func14, Tryz.ntmps14
    go_wp2_with fail
    refine HCK.out.mono ?_
    rintro e w1 ⟨rfl, hb1⟩
    have hq : (errI false != 0) = true := rfl
    go_wp2
    go_ret2
    exact ⟨by rw [HX.out]; rfl, HB0.out.trans (hb1.mono HB0.out.size)⟩
  | true =>
    have HX := Lib.hid (show encR m = (bs (manL m), 0) by unfold encR; rw [hg]; rfl)
    rw [hg] at HCK
    obtain ⟨⟨t1, t2⟩, g1, p1, ⟨z1, z2, c1, c2⟩, h32⟩ := good_parts hg
    obtain ⟨bk, off, rfl, hbk, hcell⟩ := hst (by omega)
    have HHC := Lib.hid hcell
    have HTXT := Lib.hid (show manL m = [115, 110, 97, 112] ++ varL m.time.toNat ++ textL m.tag ++ textL m.parent ++ varL m.size.toNat ++ varL m.chunks.length ++ catL m.chunks from rfl)
    have hjl := cat_len m.chunks h32
    have hj1 := Tryz.strings_Join bk off c m.chunks ⟨#[]⟩
    rw [join_cat] at hj1
    clear hcell h32 hst hb
    generalize manL m = mL at *
    obtain ⟨tm, tag, par, sz, l⟩ := m
    unfold manV
    simp only at *
    clear hg
    obtain ⟨tn, rfl⟩ : ∃ n : Nat, tm = (n : Int) := ⟨tm.toNat, by omega⟩
    obtain ⟨sn, rfl⟩ : ∃ n : Nat, sz = (n : Int) := ⟨sz.toNat, by omega⟩
    have hvar : ∀ n : Nat, n ≤ 253402300799 → ∃ v : ByteArray, v.data.toList = varL n ∧ v.size ≤ 11 ∧ ∀ W, Calls Tryz.prog 40 #[.int .u64 n] W fun e w' => e = .returned (.string v) ∧ Below W.heap.size W w' := fun n hn => ⟨⟨(varL n).toArray⟩, by simp, var_size n, fun W => var_any n W (by omega)⟩
    have htxt : ∀ s : ByteArray, s.size ≤ 100 → ∃ v : ByteArray, v.data.toList = textL s ∧ v.size ≤ 111 ∧ ∀ W, Calls Tryz.prog 41 #[.string s] W fun e w' => e = .returned (.string v) ∧ Below W.heap.size W w' := fun s hs => ⟨bs (textL s), bs_list _, by
      have h1 := (varF_len 10 s.size).2
      have h2 : (varL s.size).length ≤ 11 := h1
      rw [bs_size]; unfold textL; rw [List.length_append, ba_len]; omega, fun W => mtext_any s W (by omega)⟩
    obtain ⟨v1, e1, s1, H1⟩ := hvar tn (by omega)
    obtain ⟨v2, e2, s2, H2⟩ := hvar sn (by omega)
    obtain ⟨v3, e3, s3, H3⟩ := hvar l.length (by omega)
    obtain ⟨x1, f1, r1, K1⟩ := htxt tag (by omega)
    obtain ⟨x2, f2, r2, K2⟩ := htxt par (by omega)
    clear hvar htxt
    have HV1 := Lib.hid H1
    have HV2 := Lib.hid H2
    have HV3 := Lib.hid H3
    have HX1 := Lib.hid K1
    have HX2 := Lib.hid K2
    clear H1 H2 H3 K1 K2
    obtain ⟨jj, hjj⟩ : ∃ v : ByteArray, v = ⟨(catL l).toArray⟩ := ⟨_, rfl⟩
    have hjz : jj.size = 32 * l.length := by rw [hjj, ← hjl]; exact List.size_toArray
    have HJ := Lib.hid fun W h1 h2 => hj1 W h1 h2 (by omega) (by omega) (by omega)
    rw [← hjj] at HJ
    have HE := Lib.hid (show (⟨#[115, 110, 97, 112]⟩ : ByteArray) ++ v1 ++ x1 ++ x2 ++ v2 ++ v3 ++ jj = bs mL by
      apply ba_inj
      rw [bs_list, HTXT.out]
      simp only [ByteArray.data_append, Array.toList_append, e1, e2, e3, f1, f2, hjj, Int.toNat_natCast])
    have p0 : (⟨#[115, 110, 97, 112]⟩ : ByteArray).size = 4 := rfl
    have y1 := fun W => run_string_add_sum (P := Tryz.prog) W (⟨#[115, 110, 97, 112]⟩ : ByteArray) v1 (by first | omega | (simp only [ByteArray.size_append]; omega))
    have y2 := fun W => run_string_add_sum (P := Tryz.prog) W ((⟨#[115, 110, 97, 112]⟩ : ByteArray) ++ v1) x1 (by first | omega | (simp only [ByteArray.size_append]; omega))
    have y3 := fun W => run_string_add_sum (P := Tryz.prog) W ((⟨#[115, 110, 97, 112]⟩ : ByteArray) ++ v1 ++ x1) x2 (by first | omega | (simp only [ByteArray.size_append]; omega))
    have y4 := fun W => run_string_add_sum (P := Tryz.prog) W ((⟨#[115, 110, 97, 112]⟩ : ByteArray) ++ v1 ++ x1 ++ x2) v2 (by first | omega | (simp only [ByteArray.size_append]; omega))
    have y5 := fun W => run_string_add_sum (P := Tryz.prog) W ((⟨#[115, 110, 97, 112]⟩ : ByteArray) ++ v1 ++ x1 ++ x2 ++ v2) v3 (by first | omega | (simp only [ByteArray.size_append]; omega))
    have y6 := fun W => run_string_add_sum (P := Tryz.prog) W ((⟨#[115, 110, 97, 112]⟩ : ByteArray) ++ v1 ++ x1 ++ x2 ++ v2 ++ v3) jj (by first | omega | (simp only [ByteArray.size_append]; omega))
    have u1 : IntKind.u64.wrap (tn : Int) = (tn : Int) := IntWalk.u64_in _ (by omega)
    have u2 : IntKind.u64.wrap (sn : Int) = (sn : Int) := IntWalk.u64_in _ (by omega)
    have u3 : IntKind.u64.wrap (l.length : Int) = (l.length : Int) := IntWalk.u64_in _ (by omega)
    clear hj1 hjj hjl hjz e1 e2 e3 f1 f2 p0 s1 s2 s3 r1 r2
    go_enter Tryz.func14, Tryz.ntmps14
    go_wp2_with fail
    refine HCK.out.mono ?_
    rintro e w1 ⟨rfl, hb1⟩
    have hq : (errI true != 0) = false := rfl
    have HB1 := Lib.hid (HB0.out.trans (hb1.mono HB0.out.size))
    have HBL1 := Lib.hid (HBL.out.below hb1 (by simp))
    clear hb1 HCK
    have hS : w1.cell? ⟨w.heap.size, 0, none⟩ = some (.int .i64 tn) ∧ w1.cell? ⟨w.heap.size, 1, none⟩ = some (.string tag) ∧ w1.cell? ⟨w.heap.size, 2, none⟩ = some (.string par) ∧ w1.cell? ⟨w.heap.size, 3, none⟩ = some (.int .i64 sn) ∧ w1.cell? ⟨w.heap.size, 4, none⟩ = some (.slice (some ⟨bk, off, none⟩) l.length c) ∧ Below w.heap.size w w1 := ⟨HBL1.out.cell 0, HBL1.out.cell 1, HBL1.out.cell 2, HBL1.out.cell 3, HBL1.out.cell 4, HB1.out⟩
    have HS := Lib.hid hS
    clear hS
    go_upto_region 4 with fail
    go_region_held3 (fun W => W.cell? ⟨w.heap.size, 0, none⟩ = some (.int .i64 tn) ∧ W.cell? ⟨w.heap.size, 1, none⟩ = some (.string tag) ∧ W.cell? ⟨w.heap.size, 2, none⟩ = some (.string par) ∧ W.cell? ⟨w.heap.size, 3, none⟩ = some (.int .i64 sn) ∧ W.cell? ⟨w.heap.size, 4, none⟩ = some (.slice (some ⟨bk, off, none⟩) l.length c) ∧ Below w.heap.size w W)
      (first | exact hk3 | exact keep5 HS.out (Below.refl _ _).drew | exact HS.out)
      (first
        | (go_at_call 40; ((with_reducible refine (HV1.out _).mono ?_); rintro e w3 ⟨rfl, hb3⟩; have hk3 := keep5 (by assumption) hb3))
        | (go_at_call 40; ((with_reducible refine (HV2.out _).mono ?_); rintro e w3 ⟨rfl, hb3⟩; have hk3 := keep5 (by assumption) hb3))
        | (go_at_call 40; ((with_reducible refine (HV3.out _).mono ?_); rintro e w3 ⟨rfl, hb3⟩; have hk3 := keep5 (by assumption) hb3))
        | (go_at_call 41; ((with_reducible refine (HX1.out _).mono ?_); rintro e w3 ⟨rfl, hb3⟩; have hk3 := keep5 (by assumption) hb3))
        | (go_at_call 41; ((with_reducible refine (HX2.out _).mono ?_); rintro e w3 ⟨rfl, hb3⟩; have hk3 := keep5 (by assumption) hb3))
        | (go_at_call 42; ((with_reducible refine (HJ.out _ ?_ ?_).mono ?_); (intro j u hj; exact ((keepB (w := w) (g := w.heap.size) (by assumption)).cell (p := ⟨bk, off + j, none⟩) hbk).trans (HHC.out j u hj)); (exact Nat.lt_of_lt_of_le hbk (keepB (w := w) (g := w.heap.size) (by assumption)).size); rintro e w3 ⟨rfl, hb3⟩; have hk3 := keep5 (by assumption) hb3)))
    go_wp2
    go_ret2
    exact ⟨ret_si (by rw [HX.out]; exact HE.out) (by rw [HX.out]), keepB hk3⟩
end Go.Proofs.YtpeepdkeicgkiaaGreatDoor
namespace Go.Proofs.YtpeepdkeicgkiaaGreatDoor
set_option linter.unusedVariables false
set_option linter.unusedSimpArgs false
set_option linter.unusedSectionVars false
open Go.RowKit

set_option maxRecDepth 100000 in
set_option maxHeartbeats 400000 in
theorem rnum_any (n : Nat) (w : World) (hn : n ≤ 9223372036854775807) : Calls Tryz.prog 53 #[.int .i64 n] w fun e w' => e = .returned (.string ⟨(varL n).toArray⟩) ∧ Below w.heap.size w w' := by
  have H1 := Lib.hid fun W => refvar_any n W (by omega)
  have hu : IntKind.u64.wrap (n : Int) = (n : Int) := IntWalk.u64_in _ (by omega)
  clear hn
  go_enter Tryz.func53, Tryz.ntmps53
  go_wp2_with fail
  refine (H1.out _).mono ?_
  rintro e w1 ⟨rfl, hb⟩
  go_wp2
  go_ret
  exact ⟨rfl, hb⟩
theorem cat_snoc (l : List ByteArray) (k : Nat) (h : k < l.length) : catL (l.take (k + 1)) = catL (l.take k) ++ l[k].data.toList := by
  rw [List.take_succ_eq_append_getElem h]
  unfold catL
  rw [List.map_append, List.flatten_append]
  simp only [List.map_cons, List.map_nil, List.flatten_cons, List.flatten_nil, List.append_nil]
set_option maxRecDepth 100000 in
set_option maxHeartbeats 3200000 in
theorem rtext_any (m : Man) (A : Option Addr) (c : Nat) (w : World) (hst : StrsA w w.heap.size A m.chunks) (hg : goodM m = true) :
    Calls Tryz.prog 20 #[manV m A c] w fun e w' => e = .returned (.string (bs (manL m))) ∧ Below w.heap.size w w' := by
  have hb0 : Below w.heap.size w (w.alloc (.cells #[.int .i64 m.time, .string m.tag, .string m.parent, .int .i64 m.size, .slice A m.chunks.length c] 54)) := (Below.refl w.heap.size w).alloc (Nat.le_refl _) _
  have HBL := Lib.hid (Blk.new w 54 #[.int .i64 m.time, .string m.tag, .string m.parent, .int .i64 m.size, .slice A m.chunks.length c])
  have HB0 := Lib.hid hb0
  clear hb0
  obtain ⟨⟨t1, t2⟩, g1, p1, ⟨z1, z2, c1, c2⟩, h32⟩ := good_parts hg
  obtain ⟨bk, off, rfl, hbk, hcell⟩ := hst (by omega)
  have HHC := Lib.hid hcell
  have H32 := Lib.hid h32
  have HTXT := Lib.hid (show manL m = [115, 110, 97, 112] ++ varL m.time.toNat ++ textL m.tag ++ textL m.parent ++ varL m.size.toNat ++ varL m.chunks.length ++ catL m.chunks from rfl)
  clear hcell h32 hst hg
  generalize manL m = mL at *
  obtain ⟨tm, tag, par, sz, l⟩ := m
  unfold manV
  simp only at *
  obtain ⟨tn, rfl⟩ : ∃ n : Nat, tm = (n : Int) := ⟨tm.toNat, by omega⟩
  obtain ⟨sn, rfl⟩ : ∃ n : Nat, sz = (n : Int) := ⟨sz.toNat, by omega⟩
  have hvar : ∀ n : Nat, n ≤ 253402300799 → ∃ v : ByteArray, v.data.toList = varL n ∧ v.size ≤ 11 ∧ ∀ W, Calls Tryz.prog 53 #[.int .i64 n] W fun e w' => e = .returned (.string v) ∧ Below W.heap.size W w' := fun n hn => ⟨⟨(varL n).toArray⟩, by simp, var_size n, fun W => rnum_any n W (by omega)⟩
  obtain ⟨v1, e1, s1, H1⟩ := hvar tn (by omega)
  obtain ⟨v2, e2, s2, H2⟩ := hvar sn (by omega)
  obtain ⟨v3, e3, s3, H3⟩ := hvar l.length (by omega)
  obtain ⟨x1, f1, r1, K1⟩ := hvar tag.size (by omega)
  obtain ⟨x2, f2, r2, K2⟩ := hvar par.size (by omega)
  clear hvar
  have HV1 := Lib.hid H1
  have HV2 := Lib.hid H2
  have HV3 := Lib.hid H3
  have HX1 := Lib.hid K1
  have HX2 := Lib.hid K2
  clear H1 H2 H3 K1 K2
  have HE := Lib.hid (show ((⟨#[115, 110, 97, 112]⟩ : ByteArray) ++ v1 ++ x1 ++ tag ++ x2 ++ par ++ v2 ++ v3).data.toList ++ catL l = mL by
    rw [HTXT.out]
    unfold textL
    simp only [ByteArray.data_append, Array.toList_append, e1, e2, e3, f1, f2, Int.toNat_natCast, List.append_assoc])
  have p0 : (⟨#[115, 110, 97, 112]⟩ : ByteArray).size = 4 := rfl
  have hz : ((⟨#[115, 110, 97, 112]⟩ : ByteArray) ++ v1 ++ x1 ++ tag ++ x2 ++ par ++ v2 ++ v3).size ≤ 1000 := by simp only [ByteArray.size_append]; omega
  have y1 := fun W => run_string_add_sum (P := Tryz.prog) W (⟨#[115, 110, 97, 112]⟩ : ByteArray) v1 (by first | omega | (simp only [ByteArray.size_append]; omega))
  have y2 := fun W => run_string_add_sum (P := Tryz.prog) W ((⟨#[115, 110, 97, 112]⟩ : ByteArray) ++ v1) x1 (by first | omega | (simp only [ByteArray.size_append]; omega))
  have y3 := fun W => run_string_add_sum (P := Tryz.prog) W ((⟨#[115, 110, 97, 112]⟩ : ByteArray) ++ v1 ++ x1) tag (by first | omega | (simp only [ByteArray.size_append]; omega))
  have y4 := fun W => run_string_add_sum (P := Tryz.prog) W ((⟨#[115, 110, 97, 112]⟩ : ByteArray) ++ v1 ++ x1 ++ tag) x2 (by first | omega | (simp only [ByteArray.size_append]; omega))
  have y5 := fun W => run_string_add_sum (P := Tryz.prog) W ((⟨#[115, 110, 97, 112]⟩ : ByteArray) ++ v1 ++ x1 ++ tag ++ x2) par (by first | omega | (simp only [ByteArray.size_append]; omega))
  have y6 := fun W => run_string_add_sum (P := Tryz.prog) W ((⟨#[115, 110, 97, 112]⟩ : ByteArray) ++ v1 ++ x1 ++ tag ++ x2 ++ par) v2 (by first | omega | (simp only [ByteArray.size_append]; omega))
  have y7 := fun W => run_string_add_sum (P := Tryz.prog) W ((⟨#[115, 110, 97, 112]⟩ : ByteArray) ++ v1 ++ x1 ++ tag ++ x2 ++ par ++ v2) v3 (by first | omega | (simp only [ByteArray.size_append]; omega))
  have HSZ := Lib.hid hz
  clear e1 e2 e3 f1 f2 p0 s1 s2 s3 r1 r2 hz
  go_enter Tryz.func20, Tryz.ntmps20
  have hS : (w.alloc (.cells #[.int .i64 tn, .string tag, .string par, .int .i64 sn, .slice (some ⟨bk, off, none⟩) l.length c] 54)).cell? ⟨w.heap.size, 0, none⟩ = some (.int .i64 tn) ∧ (w.alloc (.cells #[.int .i64 tn, .string tag, .string par, .int .i64 sn, .slice (some ⟨bk, off, none⟩) l.length c] 54)).cell? ⟨w.heap.size, 1, none⟩ = some (.string tag) ∧ (w.alloc (.cells #[.int .i64 tn, .string tag, .string par, .int .i64 sn, .slice (some ⟨bk, off, none⟩) l.length c] 54)).cell? ⟨w.heap.size, 2, none⟩ = some (.string par) ∧ (w.alloc (.cells #[.int .i64 tn, .string tag, .string par, .int .i64 sn, .slice (some ⟨bk, off, none⟩) l.length c] 54)).cell? ⟨w.heap.size, 3, none⟩ = some (.int .i64 sn) ∧ (w.alloc (.cells #[.int .i64 tn, .string tag, .string par, .int .i64 sn, .slice (some ⟨bk, off, none⟩) l.length c] 54)).cell? ⟨w.heap.size, 4, none⟩ = some (.slice (some ⟨bk, off, none⟩) l.length c) ∧ Below w.heap.size w (w.alloc (.cells #[.int .i64 tn, .string tag, .string par, .int .i64 sn, .slice (some ⟨bk, off, none⟩) l.length c] 54)) := ⟨HBL.out.cell 0, HBL.out.cell 1, HBL.out.cell 2, HBL.out.cell 3, HBL.out.cell 4, HB0.out⟩
  have HS := Lib.hid hS
  clear hS
  go_upto_region 1 with fail
  go_region_held3 (fun W => W.cell? ⟨w.heap.size, 0, none⟩ = some (.int .i64 tn) ∧ W.cell? ⟨w.heap.size, 1, none⟩ = some (.string tag) ∧ W.cell? ⟨w.heap.size, 2, none⟩ = some (.string par) ∧ W.cell? ⟨w.heap.size, 3, none⟩ = some (.int .i64 sn) ∧ W.cell? ⟨w.heap.size, 4, none⟩ = some (.slice (some ⟨bk, off, none⟩) l.length c) ∧ Below w.heap.size w W)
    (first | exact hk3 | exact keep5 HS.out (Below.refl _ _).drew | exact HS.out)
    (first
      | (go_at_call 53; ((with_reducible refine (HV1.out _).mono ?_); rintro e w3 ⟨rfl, hb3⟩; have hk3 := keep5 (by assumption) hb3))
      | (go_at_call 53; ((with_reducible refine (HV2.out _).mono ?_); rintro e w3 ⟨rfl, hb3⟩; have hk3 := keep5 (by assumption) hb3))
      | (go_at_call 53; ((with_reducible refine (HV3.out _).mono ?_); rintro e w3 ⟨rfl, hb3⟩; have hk3 := keep5 (by assumption) hb3))
      | (go_at_call 53; ((with_reducible refine (HX1.out _).mono ?_); rintro e w3 ⟨rfl, hb3⟩; have hk3 := keep5 (by assumption) hb3))
      | (go_at_call 53; ((with_reducible refine (HX2.out _).mono ?_); rintro e w3 ⟨rfl, hb3⟩; have hk3 := keep5 (by assumption) hb3)))
  obtain ⟨k0, k1, k2, k3, k4, hbw⟩ := hk3
  have HBW := Lib.hid hbw
  have HC := Lib.hid fun (j : Nat) (u : ByteArray) (hj : l[j]? = some u) => (hbw.cell (p := ⟨bk, off + j, none⟩) hbk).trans (HHC.out j u hj)
  clear hbw hb3 y1 y2 y3 y4 y5 y6 y7
  generalize ((⟨#[115, 110, 97, 112]⟩ : ByteArray) ++ v1 ++ x1 ++ tag ++ x2 ++ par ++ v2 ++ v3) = hd at *
  go_wp2
  go_loop [3, 38] (fun a t => ∃ (k : Nat) (acc : ByteArray), a = .string acc ∧ t = .int .i64 (k : Nat) ∧ k ≤ l.length ∧ acc.data.toList = hd.data.toList ++ catL (l.take k) ∧ acc.size ≤ 1000 + 32 * k) (fun _ t => l.length - (intOf t).toNat)
  case atStart => exact ⟨0, hd, rfl, rfl, Nat.zero_le _, by simp [catL], by have := HSZ.out; omega⟩
  case round =>
    obtain ⟨k, acc, rfl, rfl, hk, hac, haz⟩ := hrel
    have HAC := Lib.hid hac
    clear hac
    by_cases hkl : k < l.length
    · have hcx := HC.out k l[k] (List.getElem?_eq_getElem hkl)
      have HSN := Lib.hid (cat_snoc l k hkl)
      have hz := H32.out l[k] (List.getElem_mem hkl)
      generalize l[k] = x at *
      have y1 := fun W => run_string_add_sum (P := Tryz.prog) W acc x (by omega)
      go_wp2
      go_round
      case rel => exact ⟨k + 1, acc ++ x, rfl, by go_num, by omega, by rw [HSN.out, ByteArray.data_append, Array.toList_append, HAC.out, List.append_assoc], by rw [ByteArray.size_append]; omega⟩
      case measure => simp [intOf]; omega
    · have hke : k = l.length := by omega
      have HF := Lib.hid (show acc = bs mL by
        apply ba_inj
        rw [bs_list, HAC.out, hke, List.take_length]; exact HE.out)
      clear hke
      go_wp2
      go_ret
      exact ⟨ret_str HF.out, HBW.out⟩
end Go.Proofs.YtpeepdkeicgkiaaGreatDoor
