/- the document's Good: printed by wip/gen/mkcheck.py. Manifests: the document's take and text. Manifests: reading, the document's: the plain law. Manifests: what is read is written as it was: the plain law. Manifests on a disk: Publish. -/
import Derived.Test.YtpeepdkeicgkiaaGreatDoorZo11
import Derived.Test.YtpeepdkeicgkiaaGreatDoorZo22
import Derived.Test.YtpeepdkeicgkiaaGreatDoorZo1
import Derived.Test.YtpeepdkeicgkiaaGreatDoorZo20
import Derived.Test.YtpeepdkeicgkiaaGreatDoorZo21
namespace Go.Proofs.YtpeepdkeicgkiaaGreatDoor
set_option linter.unusedVariables false
set_option linter.unusedSimpArgs false
set_option linter.unusedSectionVars false
open Go.RowKit

set_option maxRecDepth 100000 in
set_option maxHeartbeats 3200000 in
theorem mgood_any (m : Man) (A : Option Addr) (c : Nat) (w : World) (he : Env w) (hst : StrsA w w.heap.size A m.chunks) (hb : ManB m) :
    Calls Tryz.prog 19 #[manV m A c] w fun e w' => e = .returned (.bool (goodM m)) ∧ Below w.heap.size w w' := by
  have HE := Lib.hid fun W (hb : Below w.heap.size w W) => he.below hb
  obtain ⟨tm, tag, par, sz, l⟩ := m
  obtain ⟨q1, q2, q3, q4, q5, q6, q7⟩ := hb
  unfold manV
  simp only at q1 q2 q3 q4 q5 q6 q7 hst ⊢
  have HG := Lib.hid (show goodM ⟨tm, tag, par, sz, l⟩ = (decide (0 ≤ tm ∧ tm ≤ 253402300799) && (decide (tag.size = 0) || nameOk tag) && (decide (par.size = 0) || isNameD par) && decide (1 ≤ sz ∧ sz ≤ 4194304 ∧ 1 ≤ l.length ∧ (l.length : Int) ≤ sz) && l.all fun c => decide (c.size = 32)) from rfl)
  have hte := toList_isEmpty tag
  have hpe := toList_isEmpty par
  have HN := Lib.hid fun W => refname_bigM tag W q5
  have HD := Lib.hid fun W => named_bigM par W q6
  have HST := Lib.hid hst
  have HB0 := Lib.hid ((Below.refl w.heap.size w).alloc (Nat.le_refl _) (.cells #[.int .i64 tm, .string tag, .string par, .int .i64 sz, .slice A l.length c] 54))
  have HBL := Lib.hid (Blk.new w 54 #[.int .i64 tm, .string tag, .string par, .int .i64 sz, .slice A l.length c])
  clear hst he
  generalize hgd : goodM ⟨tm, tag, par, sz, l⟩ = gd at *
  clear hgd
  by_cases h1 : 0 ≤ tm ∧ tm ≤ 253402300799
  · rw [decide_eq_true h1, Bool.true_and] at HG
    obtain ⟨t1, t2⟩ := h1
    have t1' : ¬ tm < 0 := by omega
    have t2' : ¬ 253402300799 < tm := by omega
    by_cases ht : tag.size = 0
    · rw [decide_eq_true ht] at hte HG
      clear ht
      simp only [Bool.true_or, Bool.true_and] at HG
      by_cases hp : par.size = 0
      · rw [decide_eq_true hp] at hpe HG
        clear hp
        simp only [Bool.true_or, Bool.true_and] at HG
        by_cases hz : 1 ≤ sz ∧ sz ≤ 4194304 ∧ 1 ≤ l.length ∧ (l.length : Int) ≤ sz
        · rw [decide_eq_true hz, Bool.true_and] at HG
          obtain ⟨z1, z2, z3, z4⟩ := hz
          have z1' : ¬ sz < 1 := by omega
          have z2' : ¬ 4194304 < sz := by omega
          have z3' : ¬ (l.length : Int) < 1 := by omega
          have z4' : ¬ sz < (l.length : Int) := by omega
          go_enter Tryz.func19, Tryz.ntmps19
          obtain ⟨bk, off, rfl, hbk, hcell⟩ := HST.out (by omega)
          have HC := Lib.hid fun (j : Nat) (u : ByteArray) (hj : l[j]? = some u) => (show (w.alloc (.cells #[.int .i64 tm, .string tag, .string par, .int .i64 sz, .slice (some ⟨bk, off, none⟩) l.length c] 54)).cell? ⟨bk, off + j, none⟩ = some (.string u) from (HB0.out.cell (p := ⟨bk, off + j, none⟩) hbk).trans (hcell j u hj))
          clear hcell
          go_wp2
          go_loop [60] (fun t => ∃ k : Nat, t = .int .i64 (k : Nat) ∧ k ≤ l.length ∧ (l.drop k).all (fun c => decide (c.size = 32)) = l.all (fun c => decide (c.size = 32))) (fun t => l.length - (intOf t).toNat)
          case atStart => exact ⟨0, rfl, Nat.zero_le _, rfl⟩
          case round =>
            obtain ⟨k, rfl, hk, hn⟩ := hrel
            have HNN := Lib.hid hn
            clear hn
            by_cases hkl : k < l.length
            · have hcx := HC.out k l[k] (List.getElem?_eq_getElem hkl)
              have HDX := Lib.hid (List.drop_eq_getElem_cons hkl)
              generalize l[k] = x at *
              by_cases h32 : x.size = 32
              · have HX := Lib.hid (show (x :: l.drop (k + 1)).all (fun c => decide (c.size = 32)) = (l.drop (k + 1)).all (fun c => decide (c.size = 32)) by rw [List.all_cons, decide_eq_true h32, Bool.true_and])
                have hq : ((x.size : Int) != 32) = false := by simp; omega
                clear h32
                go_wp2
                go_round
                case rel => exact ⟨k + 1, by go_num, by omega, by rw [← HX.out, ← HDX.out]; exact HNN.out⟩
                case measure => simp [intOf]; omega
              · have HX := Lib.hid (show gd = false by rw [HG.out, ← HNN.out, HDX.out, List.all_cons, decide_eq_false h32]; rfl)
                have hq : ((x.size : Int) != 32) = true := by simp; omega
                clear h32
                go_wp2
                go_ret
                exact ⟨ret_bool (by rw [HX.out]), HB0.out⟩
            · have HX := Lib.hid (show gd = true by rw [HG.out, ← HNN.out, List.drop_of_length_le (by omega)]; rfl)
              go_wp2
              go_ret
              exact ⟨ret_bool (by rw [HX.out]), HB0.out⟩
        · have HX := Lib.hid (show gd = false by rw [HG.out, decide_eq_false hz]; simp)
          rcases (by omega : sz < 1 ∨ (¬ sz < 1 ∧ 4194304 < sz) ∨ (¬ sz < 1 ∧ ¬ 4194304 < sz ∧ (l.length : Int) < 1) ∨ (¬ sz < 1 ∧ ¬ 4194304 < sz ∧ ¬ (l.length : Int) < 1 ∧ sz < (l.length : Int))) with g | ⟨g1, g⟩ | ⟨g1, g2, g⟩ | ⟨g1, g2, g3, g⟩
          all_goals
            clear hz
            go_enter Tryz.func19, Tryz.ntmps19
            go_wp2
            go_ret
            exact ⟨ret_bool (by rw [HX.out]), HB0.out⟩
      · rw [decide_eq_false hp] at hpe HG
        clear hp
        simp only [Bool.false_or] at HG
        cases hd : isNameD par with
        | false =>
          rw [hd] at HG
          rw [hd] at HD
          clear hd
          have HX := Lib.hid (show gd = false by rw [HG.out]; simp)
          go_enter Tryz.func19, Tryz.ntmps19
          go_wp2_with fail
          refine (HD.out _).mono ?_
          rintro e w2 ⟨rfl, hb2⟩
          have HB2 := Lib.hid (HB0.out.trans (hb2.mono HB0.out.size))
          have HBL2 := Lib.hid (HBL.out.below hb2 (by simp))
          clear hb2
          have k0w2 : w2.cell? ⟨w.heap.size, 0, none⟩ = some (.int .i64 tm) := HBL2.out.cell 0
          have k1w2 : w2.cell? ⟨w.heap.size, 1, none⟩ = some (.string tag) := HBL2.out.cell 1
          have k2w2 : w2.cell? ⟨w.heap.size, 2, none⟩ = some (.string par) := HBL2.out.cell 2
          have k3w2 : w2.cell? ⟨w.heap.size, 3, none⟩ = some (.int .i64 sz) := HBL2.out.cell 3
          have k4w2 : w2.cell? ⟨w.heap.size, 4, none⟩ = some (.slice A l.length c) := HBL2.out.cell 4
          go_wp2
          go_ret
          exact ⟨ret_bool (by rw [HX.out]), HB2.out⟩
        | true =>
          rw [hd, Bool.true_and] at HG
          rw [hd] at HD
          clear hd
          by_cases hz : 1 ≤ sz ∧ sz ≤ 4194304 ∧ 1 ≤ l.length ∧ (l.length : Int) ≤ sz
          · rw [decide_eq_true hz, Bool.true_and] at HG
            obtain ⟨z1, z2, z3, z4⟩ := hz
            have z1' : ¬ sz < 1 := by omega
            have z2' : ¬ 4194304 < sz := by omega
            have z3' : ¬ (l.length : Int) < 1 := by omega
            have z4' : ¬ sz < (l.length : Int) := by omega
            go_enter Tryz.func19, Tryz.ntmps19
            go_wp2_with fail
            refine (HD.out _).mono ?_
            rintro e w2 ⟨rfl, hb2⟩
            have HB2 := Lib.hid (HB0.out.trans (hb2.mono HB0.out.size))
            have HBL2 := Lib.hid (HBL.out.below hb2 (by simp))
            clear hb2
            have k0w2 : w2.cell? ⟨w.heap.size, 0, none⟩ = some (.int .i64 tm) := HBL2.out.cell 0
            have k1w2 : w2.cell? ⟨w.heap.size, 1, none⟩ = some (.string tag) := HBL2.out.cell 1
            have k2w2 : w2.cell? ⟨w.heap.size, 2, none⟩ = some (.string par) := HBL2.out.cell 2
            have k3w2 : w2.cell? ⟨w.heap.size, 3, none⟩ = some (.int .i64 sz) := HBL2.out.cell 3
            have k4w2 : w2.cell? ⟨w.heap.size, 4, none⟩ = some (.slice A l.length c) := HBL2.out.cell 4
            obtain ⟨bk, off, rfl, hbk, hcell⟩ := HST.out (by omega)
            have HC := Lib.hid fun (j : Nat) (u : ByteArray) (hj : l[j]? = some u) => (show w2.cell? ⟨bk, off + j, none⟩ = some (.string u) from (HB2.out.cell (p := ⟨bk, off + j, none⟩) hbk).trans (hcell j u hj))
            clear hcell
            go_wp2
            go_loop [60] (fun t => ∃ k : Nat, t = .int .i64 (k : Nat) ∧ k ≤ l.length ∧ (l.drop k).all (fun c => decide (c.size = 32)) = l.all (fun c => decide (c.size = 32))) (fun t => l.length - (intOf t).toNat)
            case atStart => exact ⟨0, rfl, Nat.zero_le _, rfl⟩
            case round =>
              obtain ⟨k, rfl, hk, hn⟩ := hrel
              have HNN := Lib.hid hn
              clear hn
              by_cases hkl : k < l.length
              · have hcx := HC.out k l[k] (List.getElem?_eq_getElem hkl)
                have HDX := Lib.hid (List.drop_eq_getElem_cons hkl)
                generalize l[k] = x at *
                by_cases h32 : x.size = 32
                · have HX := Lib.hid (show (x :: l.drop (k + 1)).all (fun c => decide (c.size = 32)) = (l.drop (k + 1)).all (fun c => decide (c.size = 32)) by rw [List.all_cons, decide_eq_true h32, Bool.true_and])
                  have hq : ((x.size : Int) != 32) = false := by simp; omega
                  clear h32
                  go_wp2
                  go_round
                  case rel => exact ⟨k + 1, by go_num, by omega, by rw [← HX.out, ← HDX.out]; exact HNN.out⟩
                  case measure => simp [intOf]; omega
                · have HX := Lib.hid (show gd = false by rw [HG.out, ← HNN.out, HDX.out, List.all_cons, decide_eq_false h32]; rfl)
                  have hq : ((x.size : Int) != 32) = true := by simp; omega
                  clear h32
                  go_wp2
                  go_ret
                  exact ⟨ret_bool (by rw [HX.out]), HB2.out⟩
              · have HX := Lib.hid (show gd = true by rw [HG.out, ← HNN.out, List.drop_of_length_le (by omega)]; rfl)
                go_wp2
                go_ret
                exact ⟨ret_bool (by rw [HX.out]), HB2.out⟩
          · have HX := Lib.hid (show gd = false by rw [HG.out, decide_eq_false hz]; simp)
            rcases (by omega : sz < 1 ∨ (¬ sz < 1 ∧ 4194304 < sz) ∨ (¬ sz < 1 ∧ ¬ 4194304 < sz ∧ (l.length : Int) < 1) ∨ (¬ sz < 1 ∧ ¬ 4194304 < sz ∧ ¬ (l.length : Int) < 1 ∧ sz < (l.length : Int))) with g | ⟨g1, g⟩ | ⟨g1, g2, g⟩ | ⟨g1, g2, g3, g⟩
            all_goals
              clear hz
              go_enter Tryz.func19, Tryz.ntmps19
              go_wp2_with fail
              refine (HD.out _).mono ?_
              rintro e w2 ⟨rfl, hb2⟩
              have HB2 := Lib.hid (HB0.out.trans (hb2.mono HB0.out.size))
              have HBL2 := Lib.hid (HBL.out.below hb2 (by simp))
              clear hb2
              have k0w2 : w2.cell? ⟨w.heap.size, 0, none⟩ = some (.int .i64 tm) := HBL2.out.cell 0
              have k1w2 : w2.cell? ⟨w.heap.size, 1, none⟩ = some (.string tag) := HBL2.out.cell 1
              have k2w2 : w2.cell? ⟨w.heap.size, 2, none⟩ = some (.string par) := HBL2.out.cell 2
              have k3w2 : w2.cell? ⟨w.heap.size, 3, none⟩ = some (.int .i64 sz) := HBL2.out.cell 3
              have k4w2 : w2.cell? ⟨w.heap.size, 4, none⟩ = some (.slice A l.length c) := HBL2.out.cell 4
              go_wp2
              go_ret
              exact ⟨ret_bool (by rw [HX.out]), HB2.out⟩
    · rw [decide_eq_false ht] at hte HG
      clear ht
      simp only [Bool.false_or] at HG
      cases hn : nameOk tag with
      | false =>
        rw [hn] at HG HN
        have HX := Lib.hid (show gd = false by rw [HG.out]; simp)
        clear hn
        go_enter Tryz.func19, Tryz.ntmps19
        go_wp2_with fail
        refine (HN.out _).mono ?_
        rintro e w1 ⟨rfl, hw1⟩
        subst hw1
        go_wp2
        go_ret
        exact ⟨ret_bool (by rw [HX.out]), HB0.out⟩
      | true =>
        rw [hn, Bool.true_and] at HG
        rw [hn] at HN
        clear hn
        by_cases hp : par.size = 0
        · rw [decide_eq_true hp] at hpe HG
          clear hp
          simp only [Bool.true_or, Bool.true_and] at HG
          by_cases hz : 1 ≤ sz ∧ sz ≤ 4194304 ∧ 1 ≤ l.length ∧ (l.length : Int) ≤ sz
          · rw [decide_eq_true hz, Bool.true_and] at HG
            obtain ⟨z1, z2, z3, z4⟩ := hz
            have z1' : ¬ sz < 1 := by omega
            have z2' : ¬ 4194304 < sz := by omega
            have z3' : ¬ (l.length : Int) < 1 := by omega
            have z4' : ¬ sz < (l.length : Int) := by omega
            go_enter Tryz.func19, Tryz.ntmps19
            go_wp2_with fail
            refine (HN.out _).mono ?_
            rintro e w1 ⟨rfl, hw1⟩
            subst hw1
            obtain ⟨bk, off, rfl, hbk, hcell⟩ := HST.out (by omega)
            have HC := Lib.hid fun (j : Nat) (u : ByteArray) (hj : l[j]? = some u) => (show (w.alloc (.cells #[.int .i64 tm, .string tag, .string par, .int .i64 sz, .slice (some ⟨bk, off, none⟩) l.length c] 54)).cell? ⟨bk, off + j, none⟩ = some (.string u) from (HB0.out.cell (p := ⟨bk, off + j, none⟩) hbk).trans (hcell j u hj))
            clear hcell
            go_wp2
            go_loop [60] (fun t => ∃ k : Nat, t = .int .i64 (k : Nat) ∧ k ≤ l.length ∧ (l.drop k).all (fun c => decide (c.size = 32)) = l.all (fun c => decide (c.size = 32))) (fun t => l.length - (intOf t).toNat)
            case atStart => exact ⟨0, rfl, Nat.zero_le _, rfl⟩
            case round =>
              obtain ⟨k, rfl, hk, hn⟩ := hrel
              have HNN := Lib.hid hn
              clear hn
              by_cases hkl : k < l.length
              · have hcx := HC.out k l[k] (List.getElem?_eq_getElem hkl)
                have HDX := Lib.hid (List.drop_eq_getElem_cons hkl)
                generalize l[k] = x at *
                by_cases h32 : x.size = 32
                · have HX := Lib.hid (show (x :: l.drop (k + 1)).all (fun c => decide (c.size = 32)) = (l.drop (k + 1)).all (fun c => decide (c.size = 32)) by rw [List.all_cons, decide_eq_true h32, Bool.true_and])
                  have hq : ((x.size : Int) != 32) = false := by simp; omega
                  clear h32
                  go_wp2
                  go_round
                  case rel => exact ⟨k + 1, by go_num, by omega, by rw [← HX.out, ← HDX.out]; exact HNN.out⟩
                  case measure => simp [intOf]; omega
                · have HX := Lib.hid (show gd = false by rw [HG.out, ← HNN.out, HDX.out, List.all_cons, decide_eq_false h32]; rfl)
                  have hq : ((x.size : Int) != 32) = true := by simp; omega
                  clear h32
                  go_wp2
                  go_ret
                  exact ⟨ret_bool (by rw [HX.out]), HB0.out⟩
              · have HX := Lib.hid (show gd = true by rw [HG.out, ← HNN.out, List.drop_of_length_le (by omega)]; rfl)
                go_wp2
                go_ret
                exact ⟨ret_bool (by rw [HX.out]), HB0.out⟩
          · have HX := Lib.hid (show gd = false by rw [HG.out, decide_eq_false hz]; simp)
            rcases (by omega : sz < 1 ∨ (¬ sz < 1 ∧ 4194304 < sz) ∨ (¬ sz < 1 ∧ ¬ 4194304 < sz ∧ (l.length : Int) < 1) ∨ (¬ sz < 1 ∧ ¬ 4194304 < sz ∧ ¬ (l.length : Int) < 1 ∧ sz < (l.length : Int))) with g | ⟨g1, g⟩ | ⟨g1, g2, g⟩ | ⟨g1, g2, g3, g⟩
            all_goals
              clear hz
              go_enter Tryz.func19, Tryz.ntmps19
              go_wp2_with fail
              refine (HN.out _).mono ?_
              rintro e w1 ⟨rfl, hw1⟩
              subst hw1
              go_wp2
              go_ret
              exact ⟨ret_bool (by rw [HX.out]), HB0.out⟩
        · rw [decide_eq_false hp] at hpe HG
          clear hp
          simp only [Bool.false_or] at HG
          cases hd : isNameD par with
          | false =>
            rw [hd] at HG
            rw [hd] at HD
            clear hd
            have HX := Lib.hid (show gd = false by rw [HG.out]; simp)
            go_enter Tryz.func19, Tryz.ntmps19
            go_wp2_with fail
            refine (HN.out _).mono ?_
            rintro e w1 ⟨rfl, hw1⟩
            subst hw1
            go_wp2_with fail
            refine (HD.out _).mono ?_
            rintro e w2 ⟨rfl, hb2⟩
            have HB2 := Lib.hid (HB0.out.trans (hb2.mono HB0.out.size))
            have HBL2 := Lib.hid (HBL.out.below hb2 (by simp))
            clear hb2
            have k0w2 : w2.cell? ⟨w.heap.size, 0, none⟩ = some (.int .i64 tm) := HBL2.out.cell 0
            have k1w2 : w2.cell? ⟨w.heap.size, 1, none⟩ = some (.string tag) := HBL2.out.cell 1
            have k2w2 : w2.cell? ⟨w.heap.size, 2, none⟩ = some (.string par) := HBL2.out.cell 2
            have k3w2 : w2.cell? ⟨w.heap.size, 3, none⟩ = some (.int .i64 sz) := HBL2.out.cell 3
            have k4w2 : w2.cell? ⟨w.heap.size, 4, none⟩ = some (.slice A l.length c) := HBL2.out.cell 4
            go_wp2
            go_ret
            exact ⟨ret_bool (by rw [HX.out]), HB2.out⟩
          | true =>
            rw [hd, Bool.true_and] at HG
            rw [hd] at HD
            clear hd
            by_cases hz : 1 ≤ sz ∧ sz ≤ 4194304 ∧ 1 ≤ l.length ∧ (l.length : Int) ≤ sz
            · rw [decide_eq_true hz, Bool.true_and] at HG
              obtain ⟨z1, z2, z3, z4⟩ := hz
              have z1' : ¬ sz < 1 := by omega
              have z2' : ¬ 4194304 < sz := by omega
              have z3' : ¬ (l.length : Int) < 1 := by omega
              have z4' : ¬ sz < (l.length : Int) := by omega
              go_enter Tryz.func19, Tryz.ntmps19
              go_wp2_with fail
              refine (HN.out _).mono ?_
              rintro e w1 ⟨rfl, hw1⟩
              subst hw1
              go_wp2_with fail
              refine (HD.out _).mono ?_
              rintro e w2 ⟨rfl, hb2⟩
              have HB2 := Lib.hid (HB0.out.trans (hb2.mono HB0.out.size))
              have HBL2 := Lib.hid (HBL.out.below hb2 (by simp))
              clear hb2
              have k0w2 : w2.cell? ⟨w.heap.size, 0, none⟩ = some (.int .i64 tm) := HBL2.out.cell 0
              have k1w2 : w2.cell? ⟨w.heap.size, 1, none⟩ = some (.string tag) := HBL2.out.cell 1
              have k2w2 : w2.cell? ⟨w.heap.size, 2, none⟩ = some (.string par) := HBL2.out.cell 2
              have k3w2 : w2.cell? ⟨w.heap.size, 3, none⟩ = some (.int .i64 sz) := HBL2.out.cell 3
              have k4w2 : w2.cell? ⟨w.heap.size, 4, none⟩ = some (.slice A l.length c) := HBL2.out.cell 4
              obtain ⟨bk, off, rfl, hbk, hcell⟩ := HST.out (by omega)
              have HC := Lib.hid fun (j : Nat) (u : ByteArray) (hj : l[j]? = some u) => (show w2.cell? ⟨bk, off + j, none⟩ = some (.string u) from (HB2.out.cell (p := ⟨bk, off + j, none⟩) hbk).trans (hcell j u hj))
              clear hcell
              go_wp2
              go_loop [60] (fun t => ∃ k : Nat, t = .int .i64 (k : Nat) ∧ k ≤ l.length ∧ (l.drop k).all (fun c => decide (c.size = 32)) = l.all (fun c => decide (c.size = 32))) (fun t => l.length - (intOf t).toNat)
              case atStart => exact ⟨0, rfl, Nat.zero_le _, rfl⟩
              case round =>
                obtain ⟨k, rfl, hk, hn⟩ := hrel
                have HNN := Lib.hid hn
                clear hn
                by_cases hkl : k < l.length
                · have hcx := HC.out k l[k] (List.getElem?_eq_getElem hkl)
                  have HDX := Lib.hid (List.drop_eq_getElem_cons hkl)
                  generalize l[k] = x at *
                  by_cases h32 : x.size = 32
                  · have HX := Lib.hid (show (x :: l.drop (k + 1)).all (fun c => decide (c.size = 32)) = (l.drop (k + 1)).all (fun c => decide (c.size = 32)) by rw [List.all_cons, decide_eq_true h32, Bool.true_and])
                    have hq : ((x.size : Int) != 32) = false := by simp; omega
                    clear h32
                    go_wp2
                    go_round
                    case rel => exact ⟨k + 1, by go_num, by omega, by rw [← HX.out, ← HDX.out]; exact HNN.out⟩
                    case measure => simp [intOf]; omega
                  · have HX := Lib.hid (show gd = false by rw [HG.out, ← HNN.out, HDX.out, List.all_cons, decide_eq_false h32]; rfl)
                    have hq : ((x.size : Int) != 32) = true := by simp; omega
                    clear h32
                    go_wp2
                    go_ret
                    exact ⟨ret_bool (by rw [HX.out]), HB2.out⟩
                · have HX := Lib.hid (show gd = true by rw [HG.out, ← HNN.out, List.drop_of_length_le (by omega)]; rfl)
                  go_wp2
                  go_ret
                  exact ⟨ret_bool (by rw [HX.out]), HB2.out⟩
            · have HX := Lib.hid (show gd = false by rw [HG.out, decide_eq_false hz]; simp)
              rcases (by omega : sz < 1 ∨ (¬ sz < 1 ∧ 4194304 < sz) ∨ (¬ sz < 1 ∧ ¬ 4194304 < sz ∧ (l.length : Int) < 1) ∨ (¬ sz < 1 ∧ ¬ 4194304 < sz ∧ ¬ (l.length : Int) < 1 ∧ sz < (l.length : Int))) with g | ⟨g1, g⟩ | ⟨g1, g2, g⟩ | ⟨g1, g2, g3, g⟩
              all_goals
                clear hz
                go_enter Tryz.func19, Tryz.ntmps19
                go_wp2_with fail
                refine (HN.out _).mono ?_
                rintro e w1 ⟨rfl, hw1⟩
                subst hw1
                go_wp2_with fail
                refine (HD.out _).mono ?_
                rintro e w2 ⟨rfl, hb2⟩
                have HB2 := Lib.hid (HB0.out.trans (hb2.mono HB0.out.size))
                have HBL2 := Lib.hid (HBL.out.below hb2 (by simp))
                clear hb2
                have k0w2 : w2.cell? ⟨w.heap.size, 0, none⟩ = some (.int .i64 tm) := HBL2.out.cell 0
                have k1w2 : w2.cell? ⟨w.heap.size, 1, none⟩ = some (.string tag) := HBL2.out.cell 1
                have k2w2 : w2.cell? ⟨w.heap.size, 2, none⟩ = some (.string par) := HBL2.out.cell 2
                have k3w2 : w2.cell? ⟨w.heap.size, 3, none⟩ = some (.int .i64 sz) := HBL2.out.cell 3
                have k4w2 : w2.cell? ⟨w.heap.size, 4, none⟩ = some (.slice A l.length c) := HBL2.out.cell 4
                go_wp2
                go_ret
                exact ⟨ret_bool (by rw [HX.out]), HB2.out⟩
  · have HX := Lib.hid (show gd = false by rw [HG.out, decide_eq_false h1]; simp)
    rcases (by omega : tm < 0 ∨ (¬ tm < 0 ∧ 253402300799 < tm)) with g | ⟨g1, g⟩
    all_goals
      clear h1
      go_enter Tryz.func19, Tryz.ntmps19
      go_wp2
      go_ret
      exact ⟨ret_bool (by rw [HX.out]), HB0.out⟩
end Go.Proofs.YtpeepdkeicgkiaaGreatDoor
namespace Go.Proofs.YtpeepdkeicgkiaaGreatDoor
set_option linter.unusedVariables false
set_option linter.unusedSimpArgs false
set_option linter.unusedSectionVars false
open Go.RowKit

def tkR (s : ByteArray) : Nat × ByteArray × Bool := if (numS s false).2.2 = true then (0, ⟨#[]⟩, false) else ((numS s false).1, (numS s false).2.1, true)
def txO (s : ByteArray) : ByteArray × ByteArray × Bool := takS (numS s false).2.1 (numS s false).2.2 (numS s false).1
def txR (s : ByteArray) : ByteArray × ByteArray × Bool := if (txO s).2.2 = true then (⟨#[]⟩, ⟨#[]⟩, false) else ((txO s).1, (txO s).2.1, true)
set_option maxRecDepth 100000 in
set_option maxHeartbeats 800000 in
theorem rtake_any (s : ByteArray) (w : World) (hs : s.size ≤ 1099511627776) :
    Calls Tryz.prog 60 #[.string s] w fun e w' => e = .returned (.tuple #[.int .i64 (tkR s).1, .string (tkR s).2.1, .bool (tkR s).2.2]) ∧ Below w.heap.size w w' := by
  have HU := Lib.hid fun W => refunvar_any s W hs
  obtain ⟨l1, l2, l3⟩ := unvar_le s.data.toList
  rw [ba_len] at l1
  by_cases h : (unvarL s.data.toList).2 = 0 ∨ 1099511627776 < (unvarL s.data.toList).1
  · have HN := Lib.hid (show tkR s = (0, ⟨#[]⟩, false) by unfold tkR; rw [show numS s false = (0, s, true) from if_pos h]; rfl)
    generalize (unvarL s.data.toList).1 = x at *
    generalize (unvarL s.data.toList).2 = n at *
    clear l3
    have hq : ((n : Int) == 0) = true ∨ (((n : Int) == 0) = false ∧ (1099511627776 : Int) < (x : Int)) := by
      by_cases h0 : n = 0
      · exact .inl (by simp; omega)
      · exact .inr ⟨by simp; omega, by omega⟩
    clear h
    rcases hq with hq | ⟨hq, hq2⟩
    all_goals
      go_enter Tryz.func60, Tryz.ntmps60
      go_wp2_with fail
      refine (HU.out _).mono ?_
      rintro e w1 ⟨rfl, hb1⟩
      go_wp2
      refine bodyPost_ret (v := .tuple #[.int .i64 0, .string ⟨#[]⟩, .bool false]) (by simp [results, Tryz.results60, go_sem]) rfl ?_
      exact ⟨by rw [HN.out]; rfl, hb1⟩
  · have HN := Lib.hid (show tkR s = ((unvarL s.data.toList).1, s.extract (unvarL s.data.toList).2 s.size, true) by unfold tkR; rw [show numS s false = ((unvarL s.data.toList).1, s.extract (unvarL s.data.toList).2 s.size, false) from if_neg h]; rfl)
    generalize (unvarL s.data.toList).1 = x at *
    generalize (unvarL s.data.toList).2 = n at *
    clear l3
    have hq : ((n : Int) == 0) = false := by simp; omega
    have hq2 : decide ((1099511627776 : Int) < (x : Int)) = false := decide_eq_false (by omega)
    have hx : (x : Int) ≤ 1099511627776 := by omega
    have hn1 : (n : Int) ≤ (s.size : Int) := by omega
    clear h
    go_enter Tryz.func60, Tryz.ntmps60
    go_wp2_with fail
    refine (HU.out _).mono ?_
    rintro e w1 ⟨rfl, hb1⟩
    go_upto_region 4 with fail
    go_quiet (fail)
    go_wp2
    refine bodyPost_ret (v := .tuple #[.int .i64 x, .string (s.extract n s.size), .bool true]) (by simp [results, Tryz.results60, go_sem]) rfl ?_
    exact ⟨by rw [HN.out], Go.below_drewN hb1 _⟩
set_option maxRecDepth 100000 in
set_option maxHeartbeats 800000 in
theorem rtxt_any (s : ByteArray) (w : World) (hs : s.size ≤ 1099511627776) :
    Calls Tryz.prog 61 #[.string s] w fun e w' => e = .returned (.tuple #[.string (txR s).1, .string (txR s).2.1, .bool (txR s).2.2]) ∧ Below w.heap.size w w' := by
  have HU := Lib.hid fun W => rtake_any s W hs
  rcases hn : numS s false with ⟨n, r, b⟩
  have hz := numS_le s false
  rw [hn] at hz
  simp only at hz
  cases b with
  | true =>
    have HN := Lib.hid (show txR s = (⟨#[]⟩, ⟨#[]⟩, false) by
      unfold txR txO
      rw [hn]
      simp only [takS_bad, if_true])
    have ht : tkR s = (0, ⟨#[]⟩, false) := by unfold tkR; rw [hn]; rfl
    rw [ht] at HU
    clear ht hn hz
    go_enter Tryz.func61, Tryz.ntmps61
    go_wp2_with fail
    refine (HU.out _).mono ?_
    rintro e w1 ⟨rfl, hb1⟩
    go_wp2
    refine bodyPost_ret (v := .tuple #[.string ⟨#[]⟩, .string ⟨#[]⟩, .bool false]) (by simp [results, Tryz.results61, go_sem]) rfl ?_
    exact ⟨by rw [HN.out], hb1⟩
  | false =>
    have ht : tkR s = (n, r, true) := by unfold tkR; rw [hn]; rfl
    rw [ht] at HU
    by_cases h : r.size < n
    · have HN := Lib.hid (show txR s = (⟨#[]⟩, ⟨#[]⟩, false) by
        unfold txR txO takS
        rw [hn]
        simp only [if_pos h, if_true])
      have hq : (r.size : Int) < (n : Int) := by omega
      clear ht hn h
      go_enter Tryz.func61, Tryz.ntmps61
      go_wp2_with fail
      refine (HU.out _).mono ?_
      rintro e w1 ⟨rfl, hb1⟩
      go_wp2
      refine bodyPost_ret (v := .tuple #[.string ⟨#[]⟩, .string ⟨#[]⟩, .bool false]) (by simp [results, Tryz.results61, go_sem]) rfl ?_
      exact ⟨by rw [HN.out], hb1⟩
    · have HN := Lib.hid (show txR s = (r.extract 0 n, r.extract n r.size, true) by
        unfold txR txO takS
        rw [hn]
        simp only [if_neg h]
        rfl)
      have hq : ¬ (r.size : Int) < (n : Int) := by omega
      clear ht hn h
      go_enter Tryz.func61, Tryz.ntmps61
      go_wp2_with fail
      refine (HU.out _).mono ?_
      rintro e w1 ⟨rfl, hb1⟩
      go_upto_region 4 with fail
      go_quiet (fail)
      go_wp2
      refine bodyPost_ret (v := .tuple #[.string (r.extract 0 n), .string (r.extract n r.size), .bool true]) (by simp [results, Tryz.results61, go_sem]) rfl ?_
      exact ⟨by rw [HN.out], Go.below_drewN hb1 _⟩
end Go.Proofs.YtpeepdkeicgkiaaGreatDoor
namespace Go.Proofs.YtpeepdkeicgkiaaGreatDoor
set_option linter.unusedVariables false
set_option linter.unusedSimpArgs false
set_option linter.unusedSectionVars false
open Go.RowKit

theorem pre_iff (s : ByteArray) : Lib.hasPrefix s.data.toList snapL = ((s.extract 0 4).toList == [115, 110, 97, 112]) := by
  rw [Bool.eq_iff_iff, beq_iff_eq, ba_toList, ext_take]
  unfold Lib.hasPrefix
  rw [List.isPrefixOf_iff_prefix, List.prefix_iff_eq_take]
  exact eq_comm
theorem pre_short (s : ByteArray) (h : s.size < 4) : Lib.hasPrefix s.data.toList snapL = false := by
  unfold Lib.hasPrefix
  rw [Bool.eq_false_iff]
  intro e
  have := List.IsPrefix.length_le (List.isPrefixOf_iff_prefix.1 e)
  rw [ba_len] at this
  simp [snapL] at this
  omega
theorem redS_bad (s : ByteArray) : (redS s true).bad = true := by
  unfold redS
  simp only [numS_bad, takS_bad, loopS_bad]
theorem decS_nopre {s : ByteArray} (h : Lib.hasPrefix s.data.toList snapL = false) : decS s = (noMan, 3) := by
  unfold decS
  rw [h]
  exact if_pos (Or.inl (redS_bad _))
theorem decS_pre {s : ByteArray} (h : Lib.hasPrefix s.data.toList snapL = true) : decS s = (if (redS (s.extract 4 s.size) false).bad = true ∨ (redS (s.extract 4 s.size) false).s.size ≠ 0 then (noMan, 3) else if goodM (redS (s.extract 4 s.size) false).m = true then ((redS (s.extract 4 s.size) false).m, 0) else (noMan, 4)) := by
  have e : (⟨(Lib.trimPrefix s.data.toList snapL).toArray⟩ : ByteArray) = s.extract 4 s.size := by
    apply ba_inj
    rw [ext_drop]
    unfold Lib.trimPrefix
    rw [if_pos h]
    rfl
  unfold decS
  rw [e, h]
  rfl
theorem loopS_sizes : ∀ (n : Nat) (s : ByteArray), (loopS n s false).2.2 = false → 32 * n + (loopS n s false).2.1.size = s.size
  | 0, s, _ => by simp [loopS]
  | n + 1, s, h => by
    simp only [loopS, Bool.false_eq_true, if_false] at h ⊢
    by_cases hs : s.size < 32
    · have ht : takS s false 32 = (⟨#[]⟩, s, true) := if_pos hs
      rw [ht, loopS_bad] at h
      cases h
    · have ht : takS s false 32 = (s.extract 0 32, s.extract 32 s.size, false) := if_neg hs
      rw [ht] at h ⊢
      have h5 := loopS_sizes n _ h
      have h6 : (s.extract 32 s.size).size = s.size - 32 := by simp only [ByteArray.size_extract]; omega
      simp only at h5 ⊢
      omega
theorem loopS_full : ∀ (n : Nat) (s : ByteArray), s.size = 32 * n → (loopS n s false).2.2 = false
  | 0, s, _ => rfl
  | n + 1, s, h => by
    have ht : takS s false 32 = (s.extract 0 32, s.extract 32 s.size, false) := if_neg (by omega)
    simp only [loopS, Bool.false_eq_true, if_false, ht]
    exact loopS_full n _ (by simp only [ByteArray.size_extract]; omega)
theorem dec_out {s : ByteArray} {w W : World} {e : Int} (hX : decS s = (noMan, e)) (hb : Below w.heap.size w W) : DecPost s w (.returned (.tuple #[.agg #[.int .i64 0, .string ⟨#[]⟩, .string ⟨#[]⟩, .int .i64 0, .slice none 0 0], .int .i64 e])) W :=
  ⟨none, 0, by rw [hX]; rfl, by rw [hX]; exact fun h => absurd h (by simp [noMan]), hb, by rw [hX]; simp [noMan], by rw [hX]; simp [noMan]⟩
theorem below5 {w W : World} (h : Below w.heap.size w W) (a b c d e : Value) : Below w.heap.size w (((((W.setCell ⟨w.heap.size, 0, none⟩ a).setCell ⟨w.heap.size, 1, none⟩ b).setCell ⟨w.heap.size, 2, none⟩ c).setCell ⟨w.heap.size, 3, none⟩ d).setCell ⟨w.heap.size, 4, none⟩ e) :=
  ((((h.setCell (p := ⟨w.heap.size, 0, none⟩) (Nat.le_refl _) _).setCell (p := ⟨w.heap.size, 1, none⟩) (Nat.le_refl _) _).setCell (p := ⟨w.heap.size, 2, none⟩) (Nat.le_refl _) _).setCell (p := ⟨w.heap.size, 3, none⟩) (Nat.le_refl _) _).setCell (p := ⟨w.heap.size, 4, none⟩) (Nat.le_refl _) _
/-- the block of the result, before anything is stored; the manifest's, while it is read -/
def RB (w W : World) (a b c d : Value) : Prop := Blk W w.heap.size 54 #[.int .i64 0, .string ⟨#[]⟩, .string ⟨#[]⟩, .int .i64 0, .slice none 0 0] ∧ Blk W (w.heap.size + 1) 54 #[a, b, c, d, .slice none 0 0] ∧ Below w.heap.size w W ∧ w.heap.size + 2 ≤ W.heap.size
theorem RB.low {w W W' : World} {a b c d : Value} (h : RB w W a b c d) (hb : Below W.heap.size W W') : RB w W' a b c d := by
  obtain ⟨h1, h2, h3, h4⟩ := h
  exact ⟨h1.below hb (by omega), h2.below hb (by omega), h3.trans (hb.mono h3.size), Nat.le_trans h4 hb.size⟩
theorem RB.drew {w W : World} {a b c d : Value} (h : RB w W a b c d) (n : Nat) : RB w (W.drewN n) a b c d := h.low (Go.below_drewN (Below.refl _ _) _)
theorem RB.set_ {w W : World} {cs : Array Value} (h1 : Blk W w.heap.size 54 #[.int .i64 0, .string ⟨#[]⟩, .string ⟨#[]⟩, .int .i64 0, .slice none 0 0]) (h2 : Blk W (w.heap.size + 1) 54 cs) (h3 : Below w.heap.size w W) (h4 : w.heap.size + 2 ≤ W.heap.size) (i : Nat) (u : Value) {a b c d : Value} (e : cs.setIfInBounds i u = #[a, b, c, d, .slice none 0 0]) :
    RB w (W.setCell ⟨w.heap.size + 1, i, none⟩ u) a b c d := by
  refine ⟨h1.far (by simp) _, ?_, h3.setCell (by simp) _, by rw [World.size_setCell]; exact h4⟩
  rw [← e]
  exact h2.set_ i u
section
variable {s0 s1 s2 s3 s4 s5 t u : ByteArray} {x z n : Nat}
theorem red1 (h : numS s0 false = (x, s1, true)) : (redS s0 false).bad = true := by
  unfold redS
  simp only [h, numS_bad, takS_bad, loopS_bad]
theorem red2 (h1 : numS s0 false = (x, s1, false)) (h2 : txO s1 = (t, s2, true)) : (redS s0 false).bad = true := by
  have h2 : takS (numS s1 false).2.1 (numS s1 false).2.2 (numS s1 false).1 = (t, s2, true) := h2
  unfold redS
  simp only [h1, h2, numS_bad, takS_bad, loopS_bad]
theorem red3 (h1 : numS s0 false = (x, s1, false)) (h2 : txO s1 = (t, s2, false)) (h3 : txO s2 = (u, s3, true)) : (redS s0 false).bad = true := by
  have h2 : takS (numS s1 false).2.1 (numS s1 false).2.2 (numS s1 false).1 = (t, s2, false) := h2
  have h3 : takS (numS s2 false).2.1 (numS s2 false).2.2 (numS s2 false).1 = (u, s3, true) := h3
  unfold redS
  simp only [h1, h2, h3, numS_bad, loopS_bad]
theorem red4 (h1 : numS s0 false = (x, s1, false)) (h2 : txO s1 = (t, s2, false)) (h3 : txO s2 = (u, s3, false)) (h4 : numS s3 false = (z, s4, true)) : (redS s0 false).bad = true := by
  have h2 : takS (numS s1 false).2.1 (numS s1 false).2.2 (numS s1 false).1 = (t, s2, false) := h2
  have h3 : takS (numS s2 false).2.1 (numS s2 false).2.2 (numS s2 false).1 = (u, s3, false) := h3
  unfold redS
  simp only [h1, h2, h3, h4, numS_bad, loopS_bad]
theorem red5 (h1 : numS s0 false = (x, s1, false)) (h2 : txO s1 = (t, s2, false)) (h3 : txO s2 = (u, s3, false)) (h4 : numS s3 false = (z, s4, false)) (h5 : numS s4 false = (n, s5, true)) : (redS s0 false).bad = true := by
  have h2 : takS (numS s1 false).2.1 (numS s1 false).2.2 (numS s1 false).1 = (t, s2, false) := h2
  have h3 : takS (numS s2 false).2.1 (numS s2 false).2.2 (numS s2 false).1 = (u, s3, false) := h3
  unfold redS
  simp only [h1, h2, h3, h4, h5, loopS_bad]
theorem red6 (h1 : numS s0 false = (x, s1, false)) (h2 : txO s1 = (t, s2, false)) (h3 : txO s2 = (u, s3, false)) (h4 : numS s3 false = (z, s4, false)) (h5 : numS s4 false = (n, s5, false)) :
    redS s0 false = ⟨⟨x, t, u, z, (loopS n s5 false).1⟩, (loopS n s5 false).2.1, (loopS n s5 false).2.2⟩ := by
  have h2 : takS (numS s1 false).2.1 (numS s1 false).2.2 (numS s1 false).1 = (t, s2, false) := h2
  have h3 : takS (numS s2 false).2.1 (numS s2 false).2.2 (numS s2 false).1 = (u, s3, false) := h3
  unfold redS
  simp only [h1, h2, h3, h4, h5]
theorem tk_ok (h : numS s0 false = (x, s1, false)) : tkR s0 = (x, s1, true) := by unfold tkR; rw [h]; rfl
theorem tk_no (h : numS s0 false = (x, s1, true)) : tkR s0 = (0, ⟨#[]⟩, false) := by unfold tkR; rw [h]; rfl
theorem tx_ok (h : txO s0 = (t, s1, false)) : txR s0 = (t, s1, true) := by unfold txR; rw [h]; rfl
theorem tx_no (h : txO s0 = (t, s1, true)) : txR s0 = (⟨#[]⟩, ⟨#[]⟩, false) := by unfold txR; rw [h]; rfl
theorem tx_le (s : ByteArray) : (txO s).1.size ≤ s.size ∧ (txO s).2.1.size ≤ s.size := by
  have h1 := (numS_le s false).2
  have h2 := takS_le (numS s false).2.1 (numS s false).2.2 (numS s false).1
  exact ⟨Nat.le_trans h2.1 h1, Nat.le_trans h2.2 h1⟩
end
end Go.Proofs.YtpeepdkeicgkiaaGreatDoor
namespace Go.Proofs.YtpeepdkeicgkiaaGreatDoor
set_option linter.unusedVariables false
set_option linter.unusedSimpArgs false
set_option linter.unusedSectionVars false
open Go.RowKit

theorem numS_back {s r : ByteArray} {b : Bool} {x : Nat} (h : numS s b = (x, r, false)) : b = false ∧ s.data.toList = varL x ++ r.data.toList := by
  unfold numS at h
  split at h
  · simp at h
  · next hc =>
    simp only [Prod.mk.injEq] at h
    obtain ⟨rfl, rfl, rfl⟩ := h
    have hb := unvar_back (l := s.data.toList) (x := (unvarL s.data.toList).1) (n := (unvarL s.data.toList).2) rfl (fun e => hc (Or.inl e))
    refine ⟨rfl, ?_⟩
    rw [ext_drop, ← hb.2.2.1, List.take_append_drop]
theorem takS_back {s t r : ByteArray} {b : Bool} {n : Nat} (h : takS s b n = (t, r, false)) : b = false ∧ s.data.toList = t.data.toList ++ r.data.toList ∧ t.size = n := by
  unfold takS at h
  split at h
  · simp at h
  · simp only [Prod.mk.injEq] at h
    obtain ⟨rfl, rfl, rfl⟩ := h
    refine ⟨rfl, ?_, ?_⟩
    · rw [ext_drop, ext_take, List.take_append_drop]
    · simp only [ByteArray.size_extract]; omega
theorem loopS_back : ∀ (n : Nat) {s r : ByteArray} {b : Bool} {l : List ByteArray}, loopS n s b = (l, r, false) → b = false ∧ s.data.toList = catL l ++ r.data.toList ∧ l.length = n
  | 0, s, r, b, l, h => by
    simp only [loopS, Prod.mk.injEq] at h
    obtain ⟨rfl, rfl, rfl⟩ := h
    exact ⟨rfl, rfl, rfl⟩
  | n + 1, s, r, b, l, h => by
    cases b with
    | true => simp [loopS] at h
    | false =>
      rcases ht : takS s false 32 with ⟨t, s2, b2⟩
      rcases hl : loopS n s2 b2 with ⟨l', r', b'⟩
      simp only [loopS, ht, hl, Bool.false_eq_true, if_false, Prod.mk.injEq] at h
      obtain ⟨rfl, rfl, rfl⟩ := h
      obtain ⟨rfl, h2, h3⟩ := loopS_back n hl
      obtain ⟨_, h4, _⟩ := takS_back ht
      refine ⟨rfl, ?_, by simp [h3]⟩
      rw [h4, h2]
      simp [catL]
theorem snap_split {s : ByteArray} (h : Lib.hasPrefix s.data.toList snapL = true) : s.data.toList = snapL ++ (s.extract 4 s.size).data.toList := by
  rw [ext_drop]
  unfold Lib.hasPrefix at h
  rw [List.isPrefixOf_iff_prefix, List.prefix_iff_eq_take] at h
  have e : s.data.toList.take 4 = snapL := h.symm
  rw [← e, List.take_append_drop]
theorem decS_back {s : ByteArray} (h : (decS s).2 = 0) : goodM (decS s).1 = true ∧ bs (manL (decS s).1) = s := by
  cases hp : Lib.hasPrefix s.data.toList snapL with
  | false => rw [decS_nopre hp] at h; cases h
  | true =>
    have hd := decS_pre hp
    rcases h1 : numS (s.extract 4 s.size) false with ⟨x1, s1, b1⟩
    rcases h2 : numS s1 b1 with ⟨x2, s2, b2⟩
    rcases h3 : takS s2 b2 x2 with ⟨t3, s3, b3⟩
    rcases h4 : numS s3 b3 with ⟨x4, s4, b4⟩
    rcases h5 : takS s4 b4 x4 with ⟨t5, s5, b5⟩
    rcases h6 : numS s5 b5 with ⟨x6, s6, b6⟩
    rcases h7 : numS s6 b6 with ⟨x7, s7, b7⟩
    rcases h8 : loopS x7 s7 b7 with ⟨l8, s8, b8⟩
    have hred : redS (s.extract 4 s.size) false = ⟨⟨x1, t3, t5, x6, l8⟩, s8, b8⟩ := by
      unfold redS
      simp only [h1, h2, h3, h4, h5, h6, h7, h8]
    rw [hred] at hd
    simp only at hd
    by_cases hc : b8 = true ∨ s8.size ≠ 0
    · rw [if_pos hc] at hd
      rw [hd] at h
      cases h
    · rw [if_neg hc] at hd
      by_cases hg : goodM ⟨x1, t3, t5, x6, l8⟩ = true
      · rw [if_pos hg] at hd
        rw [hd]
        refine ⟨hg, ?_⟩
        have hb : b8 = false := by
          cases b8
          · rfl
          · exact absurd (Or.inl rfl) hc
        have hz : s8.size = 0 := by
          by_cases e : s8.size = 0
          · exact e
          · exact absurd (Or.inr e) hc
        subst hb
        obtain ⟨rfl, g8, k8⟩ := loopS_back _ h8
        obtain ⟨rfl, g7⟩ := numS_back h7
        obtain ⟨rfl, g6⟩ := numS_back h6
        obtain ⟨rfl, g5, k5⟩ := takS_back h5
        obtain ⟨rfl, g4⟩ := numS_back h4
        obtain ⟨rfl, g3, k3⟩ := takS_back h3
        obtain ⟨rfl, g2⟩ := numS_back h2
        obtain ⟨_, g1⟩ := numS_back h1
        have hn : s8.data.toList = [] := List.eq_nil_of_length_eq_zero (by rw [ba_len]; exact hz)
        rw [hn, List.append_nil] at g8
        apply ba_inj
        rw [bs_list, snap_split hp, g1, g2, g3, g4, g5, g6, g7, g8]
        unfold manL textL snapL
        simp only [k3, k5, k8, Int.toNat_natCast, List.append_assoc]
      · rw [if_neg hg] at hd
        rw [hd] at h
        cases h
/-- there are three outcomes; but for the good one nothing is handed out -/
theorem decS_cases (s : ByteArray) : (decS s).2 = 0 ∨ ((decS s).1 = noMan ∧ ((decS s).2 = 3 ∨ (decS s).2 = 4)) := by
  unfold decS
  simp only
  split
  · exact .inr ⟨rfl, .inl rfl⟩
  · split
    · exact .inl rfl
    · exact .inr ⟨rfl, .inr rfl⟩
theorem man_size {m : Man} (h : goodM m = true) : (bs (manL m)).size ≤ 1099511627776 := by
  obtain ⟨⟨t1, t2⟩, g1, p1, ⟨z1, z2, c1, c2⟩, hc⟩ := good_parts h
  have h1 := (varF_len 10 m.time.toNat).2
  have h2 := (varF_len 10 m.tag.size).2
  have h3 := (varF_len 10 m.parent.size).2
  have h4 := (varF_len 10 m.size.toNat).2
  have h5 := (varF_len 10 m.chunks.length).2
  have h6 := cat_len m.chunks hc
  have hl : (manL m).length = 4 + (varL m.time.toNat).length + ((varL m.tag.size).length + m.tag.size) + ((varL m.parent.size).length + m.parent.size) + (varL m.size.toNat).length + (varL m.chunks.length).length + (catL m.chunks).length := by
    unfold manL textL
    simp only [List.length_append, ba_len]
    rfl
  rw [bs_size, hl]
  unfold varL
  omega
theorem dec_two (s : ByteArray) : ((decS s).2 = 0 ∧ goodM (decS s).1 = true ∧ bs (manL (decS s).1) = s) ∨ (decS s).2 ≠ 0 := by
  by_cases h : (decS s).2 = 0
  · exact .inl ⟨h, decS_back h⟩
  · exact .inr h
end Go.Proofs.YtpeepdkeicgkiaaGreatDoor
namespace Go.Proofs.YtpeepdkeicgkiaaGreatDoor
set_option linter.unusedVariables false
set_option linter.unusedSimpArgs false
set_option linter.unusedSectionVars false
open Go.RowKit Go.Maps

def frontS : ByteArray := ⟨#[115]⟩
/-- the file's name of these bytes -/
def snapN (s : ByteArray) : ByteArray := frontS ++ nameS s
def Dk.mpublish (D : Dk) (m : Man) : Dk × ByteArray × Int :=
  if goodM m = false then (D, ⟨#[]⟩, 4) else
  if (D.publish (snapN (bs (manL m))) (bs (manL m))).2 ≠ 0 then ((D.publish (snapN (bs (manL m))) (bs (manL m))).1, ⟨#[]⟩, (D.publish (snapN (bs (manL m))) (bs (manL m))).2)
  else ((D.publish (snapN (bs (manL m))) (bs (manL m))).1, nameS (bs (manL m)), 0)
theorem strsA_up {w W : World} {A : Option Addr} {l : List ByteArray} (h : StrsA w w.heap.size A l) (hb : Below w.heap.size w W) : StrsA W W.heap.size A l := fun hl => by
  obtain ⟨b, o, e, hlt, hc⟩ := h hl
  exact ⟨b, o, e, Nat.lt_of_lt_of_le hlt hb.size, fun j u hj => (hb.cell (p := ⟨b, o + j, none⟩) hlt).trans (hc j u hj)⟩
theorem snapN_size (s : ByteArray) : (snapN s).size = 65 := by
  unfold snapN
  rw [ByteArray.size_append, nameS_size]; rfl
set_option maxRecDepth 100000 in
set_option maxHeartbeats 1600000 in
theorem mpublish_any (b : Nat) (D : Dk) (L : Lay) (m : Man) (A : Option Addr) (c : Nat) (w : World) (h : DiskAt w b D L) (he : Env w) (hst : StrsA w w.heap.size A m.chunks) (hbm : ManB m) (hc : m.chunks.length ≤ c) (hsm : D.small 300000) :
    Calls Tryz.prog 9 #[.pointer (some ⟨b, 0, none⟩), manV m A c] w fun e w' => e = .returned (.tuple #[.string (D.mpublish m).2.1, .int .i64 (D.mpublish m).2.2]) ∧ DkPost b L (D.mpublish m).1 w w' := by
  have HB0 := Lib.hid (show Below w.heap.size w (w.alloc (.cells #[.int .i64 m.time, .string m.tag, .string m.parent, .int .i64 m.size, .slice A m.chunks.length c] 32)) from (Below.refl w.heap.size w).alloc (Nat.le_refl _) _)
  have HE := Lib.hid (mencode_any m A c _ (he.below HB0.out) (strsA_up hst HB0.out) hbm hc)
  have HD := Lib.hid h
  have HSM := Lib.hid hsm
  unfold manV at HE ⊢
  clear h he hst hbm hc hsm
  cases hg : goodM m with
  | false =>
    have HX := Lib.hid (show encR m = (⟨#[]⟩, 4) by unfold encR; rw [hg]; rfl)
    have HU := Lib.hid (show D.mpublish m = (D, ⟨#[]⟩, 4) by unfold Dk.mpublish; rw [if_pos hg])
    rw [HX.out] at HE
    clear hg
    go_enter Tryz.func9, Tryz.ntmps9
    go_wp2_with fail
    refine HE.out.mono ?_
    rintro e w1 ⟨rfl, hb1⟩
    have HB1 := Lib.hid (HB0.out.trans (hb1.mono HB0.out.size))
    clear hb1
    go_wp2
    go_ret2
    exact ⟨by rw [HU.out]; rfl, by rw [HU.out]; exact DkPost.of (HD.out.below HB1.out) HB1.out⟩
  | true =>
    have HX := Lib.hid (show encR m = (bs (manL m), 0) by unfold encR; rw [hg]; rfl)
    rw [HX.out] at HE
    have hz := man_size hg
    have HU := Lib.hid (show D.mpublish m = if (D.publish (snapN (bs (manL m))) (bs (manL m))).2 ≠ 0 then ((D.publish (snapN (bs (manL m))) (bs (manL m))).1, ⟨#[]⟩, (D.publish (snapN (bs (manL m))) (bs (manL m))).2)
      else ((D.publish (snapN (bs (manL m))) (bs (manL m))).1, nameS (bs (manL m)), 0) by unfold Dk.mpublish; rw [if_neg (by rw [hg]; decide)])
    generalize D.mpublish m = ans at *
    have HSN := Lib.hid (show snapN (bs (manL m)) = (⟨#[115]⟩ : ByteArray) ++ nameS (bs (manL m)) from rfl)
    have hsz := snapN_size (bs (manL m))
    have hnz := nameS_size (bs (manL m))
    simp only at HE
    generalize bs (manL m) = s at *
    have HN := Lib.hid fun W => dname_any s W (by omega)
    have HPB := Lib.hid fun W (hb : Below w.heap.size w W) => DkPost.call (DkPost.of (HD.out.below hb) hb) fun L1 h1 => publish_any b D L1 (snapN s) s W h1 (by omega) (by omega) HSM.out
    generalize snapN s = sn at *
    generalize nameS s = nm at *
    generalize D.publish sn s = dp at *
    obtain ⟨D1, c1⟩ := dp
    simp only at HU HPB
    clear hg
    have hadd := fun W => run_string_add_sum (P := Tryz.prog) W (⟨#[115]⟩ : ByteArray) nm (by have : (⟨#[115]⟩ : ByteArray).size = 1 := rfl; omega)
    rw [← HSN.out] at hadd
    go_enter Tryz.func9, Tryz.ntmps9
    go_wp2_with fail
    refine HE.out.mono ?_
    rintro e w1 ⟨rfl, hb1⟩
    have HB1 := Lib.hid (HB0.out.trans (hb1.mono HB0.out.size))
    clear hb1
    go_wp2_with fail
    refine (HN.out _).mono ?_
    rintro e w2 ⟨rfl, hb2⟩
    have HB2 := Lib.hid (HB1.out.trans (hb2.mono HB1.out.size))
    clear hb2 HN HE
    go_wp2_with fail
    refine (HPB.out _ HB2.out).mono ?_
    rintro e w3 ⟨rfl, hp3⟩
    have HP3 := Lib.hid hp3
    clear hp3 HPB
    by_cases h0 : c1 = 0
    · subst h0
      have HU2 := Lib.hid (show ans = (D1, nm, 0) from by rw [HU.out]; simp)
      clear HU
      go_wp2
      go_ret2
      exact ⟨by rw [HU2.out]; rfl, by rw [HU2.out]; exact HP3.out⟩
    · have hq := bne0' h0
      have HU2 := Lib.hid (show ans = (D1, ⟨#[]⟩, c1) from by rw [HU.out]; simp [h0])
      clear HU
      go_wp2
      go_ret2
      exact ⟨by rw [HU2.out]; rfl, by rw [HU2.out]; exact HP3.out⟩
end Go.Proofs.YtpeepdkeicgkiaaGreatDoor
