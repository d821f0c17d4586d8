/- the document's Good: printed by wip/gen/mkcheck.py. -/
import Derived.Test.YtbjompcaekbjoaaDoorMh
namespace Go.Proofs.YtbjompcaekbjoaaDoor
open Go.RowKit

set_option maxRecDepth 100000 in
set_option maxHeartbeats 3200000 in
theorem mgood_any (m : Man) (A : Option Addr) (c : Nat) (w : World) (he : Env w) (hst : StrsA w w.heap.size A m.chunks) (hb : ManB m) :
    Calls Tryd.prog 17 #[manV m A c] w fun e w' => e = .returned (.bool (goodM m)) ∧ Below w.heap.size w w' := by
  have HE := Lib.hid fun W (hb : Below w.heap.size w W) => he.below hb
  obtain ⟨tm, tag, par, sz, l⟩ := m
  obtain ⟨q1, q2, q3, q4, q5, q6, q7⟩ := hb
  unfold manV
  simp only at q1 q2 q3 q4 q5 q6 q7 hst ⊢
  have HG := Lib.hid (show goodM ⟨tm, tag, par, sz, l⟩ = (decide (0 ≤ tm ∧ tm ≤ 253402300799) && (decide (tag.size = 0) || nameOk tag) && (decide (par.size = 0) || isNameD par) && decide (1 ≤ sz ∧ sz ≤ 4194304 ∧ 1 ≤ l.length ∧ (l.length : Int) ≤ sz) && l.all fun c => decide (c.size = 32)) from rfl)
  have hte := toList_isEmpty tag
  have hpe := toList_isEmpty par
  have HN := Lib.hid fun W => refname_bigM tag W q5
  have HD := Lib.hid fun W => named_bigM par W q6
  have HST := Lib.hid hst
  have HB0 := Lib.hid ((Below.refl w.heap.size w).alloc (Nat.le_refl _) (.cells #[.int .i64 tm, .string tag, .string par, .int .i64 sz, .slice A l.length c] 30))
  have HBL := Lib.hid (Blk.new w 30 #[.int .i64 tm, .string tag, .string par, .int .i64 sz, .slice A l.length c])
  clear hst he
  generalize hgd : goodM ⟨tm, tag, par, sz, l⟩ = gd at *
  clear hgd
  by_cases h1 : 0 ≤ tm ∧ tm ≤ 253402300799
  · rw [decide_eq_true h1, Bool.true_and] at HG
    obtain ⟨t1, t2⟩ := h1
    have t1' : ¬ tm < 0 := by omega
    have t2' : ¬ 253402300799 < tm := by omega
    by_cases ht : tag.size = 0
    · rw [decide_eq_true ht] at hte HG
      clear ht
      simp only [Bool.true_or, Bool.true_and] at HG
      by_cases hp : par.size = 0
      · rw [decide_eq_true hp] at hpe HG
        clear hp
        simp only [Bool.true_or, Bool.true_and] at HG
        by_cases hz : 1 ≤ sz ∧ sz ≤ 4194304 ∧ 1 ≤ l.length ∧ (l.length : Int) ≤ sz
        · rw [decide_eq_true hz, Bool.true_and] at HG
          obtain ⟨z1, z2, z3, z4⟩ := hz
          have z1' : ¬ sz < 1 := by omega
          have z2' : ¬ 4194304 < sz := by omega
          have z3' : ¬ (l.length : Int) < 1 := by omega
          have z4' : ¬ sz < (l.length : Int) := by omega
          go_enter Tryd.func17, Tryd.ntmps17
          obtain ⟨bk, off, rfl, hbk, hcell⟩ := HST.out (by omega)
          have HC := Lib.hid fun (j : Nat) (u : ByteArray) (hj : l[j]? = some u) => (show (w.alloc (.cells #[.int .i64 tm, .string tag, .string par, .int .i64 sz, .slice (some ⟨bk, off, none⟩) l.length c] 30)).cell? ⟨bk, off + j, none⟩ = some (.string u) from (HB0.out.cell (p := ⟨bk, off + j, none⟩) hbk).trans (hcell j u hj))
          clear hcell
          go_wp2
          go_loop [60] (fun t => ∃ k : Nat, t = .int .i64 (k : Nat) ∧ k ≤ l.length ∧ (l.drop k).all (fun c => decide (c.size = 32)) = l.all (fun c => decide (c.size = 32))) (fun t => l.length - (intOf t).toNat)
          case atStart => exact ⟨0, rfl, Nat.zero_le _, rfl⟩
          case round =>
            obtain ⟨k, rfl, hk, hn⟩ := hrel
            have HNN := Lib.hid hn
            clear hn
            by_cases hkl : k < l.length
            · have hcx := HC.out k l[k] (List.getElem?_eq_getElem hkl)
              have HDX := Lib.hid (List.drop_eq_getElem_cons hkl)
              generalize l[k] = x at *
              by_cases h32 : x.size = 32
              · have HX := Lib.hid (show (x :: l.drop (k + 1)).all (fun c => decide (c.size = 32)) = (l.drop (k + 1)).all (fun c => decide (c.size = 32)) by rw [List.all_cons, decide_eq_true h32, Bool.true_and])
                have hq : ((x.size : Int) != 32) = false := by simp; omega
                clear h32
                go_wp2
                go_round
                case rel => exact ⟨k + 1, by go_num, by omega, by rw [← HX.out, ← HDX.out]; exact HNN.out⟩
                case measure => simp [intOf]; omega
              · have HX := Lib.hid (show gd = false by rw [HG.out, ← HNN.out, HDX.out, List.all_cons, decide_eq_false h32]; rfl)
                have hq : ((x.size : Int) != 32) = true := by simp; omega
                clear h32
                go_wp2
                go_ret
                exact ⟨ret_bool (by rw [HX.out]), HB0.out⟩
            · have HX := Lib.hid (show gd = true by rw [HG.out, ← HNN.out, List.drop_of_length_le (by omega)]; rfl)
              go_wp2
              go_ret
              exact ⟨ret_bool (by rw [HX.out]), HB0.out⟩
        · have HX := Lib.hid (show gd = false by rw [HG.out, decide_eq_false hz]; simp)
          rcases (by omega : sz < 1 ∨ (¬ sz < 1 ∧ 4194304 < sz) ∨ (¬ sz < 1 ∧ ¬ 4194304 < sz ∧ (l.length : Int) < 1) ∨ (¬ sz < 1 ∧ ¬ 4194304 < sz ∧ ¬ (l.length : Int) < 1 ∧ sz < (l.length : Int))) with g | ⟨g1, g⟩ | ⟨g1, g2, g⟩ | ⟨g1, g2, g3, g⟩
          all_goals
            clear hz
            go_enter Tryd.func17, Tryd.ntmps17
            go_wp2
            go_ret
            exact ⟨ret_bool (by rw [HX.out]), HB0.out⟩
      · rw [decide_eq_false hp] at hpe HG
        clear hp
        simp only [Bool.false_or] at HG
        cases hd : isNameD par with
        | false =>
          rw [hd] at HG
          rw [hd] at HD
          clear hd
          have HX := Lib.hid (show gd = false by rw [HG.out]; simp)
          go_enter Tryd.func17, Tryd.ntmps17
          go_wp2_with fail
          refine (HD.out _).mono ?_
          rintro e w2 ⟨rfl, hb2⟩
          have HB2 := Lib.hid (HB0.out.trans (hb2.mono HB0.out.size))
          have HBL2 := Lib.hid (HBL.out.below hb2 (by simp))
          clear hb2
          have k0w2 : w2.cell? ⟨w.heap.size, 0, none⟩ = some (.int .i64 tm) := HBL2.out.cell 0
          have k1w2 : w2.cell? ⟨w.heap.size, 1, none⟩ = some (.string tag) := HBL2.out.cell 1
          have k2w2 : w2.cell? ⟨w.heap.size, 2, none⟩ = some (.string par) := HBL2.out.cell 2
          have k3w2 : w2.cell? ⟨w.heap.size, 3, none⟩ = some (.int .i64 sz) := HBL2.out.cell 3
          have k4w2 : w2.cell? ⟨w.heap.size, 4, none⟩ = some (.slice A l.length c) := HBL2.out.cell 4
          go_wp2
          go_ret
          exact ⟨ret_bool (by rw [HX.out]), HB2.out⟩
        | true =>
          rw [hd, Bool.true_and] at HG
          rw [hd] at HD
          clear hd
          by_cases hz : 1 ≤ sz ∧ sz ≤ 4194304 ∧ 1 ≤ l.length ∧ (l.length : Int) ≤ sz
          · rw [decide_eq_true hz, Bool.true_and] at HG
            obtain ⟨z1, z2, z3, z4⟩ := hz
            have z1' : ¬ sz < 1 := by omega
            have z2' : ¬ 4194304 < sz := by omega
            have z3' : ¬ (l.length : Int) < 1 := by omega
            have z4' : ¬ sz < (l.length : Int) := by omega
            go_enter Tryd.func17, Tryd.ntmps17
            go_wp2_with fail
            refine (HD.out _).mono ?_
            rintro e w2 ⟨rfl, hb2⟩
            have HB2 := Lib.hid (HB0.out.trans (hb2.mono HB0.out.size))
            have HBL2 := Lib.hid (HBL.out.below hb2 (by simp))
            clear hb2
            have k0w2 : w2.cell? ⟨w.heap.size, 0, none⟩ = some (.int .i64 tm) := HBL2.out.cell 0
            have k1w2 : w2.cell? ⟨w.heap.size, 1, none⟩ = some (.string tag) := HBL2.out.cell 1
            have k2w2 : w2.cell? ⟨w.heap.size, 2, none⟩ = some (.string par) := HBL2.out.cell 2
            have k3w2 : w2.cell? ⟨w.heap.size, 3, none⟩ = some (.int .i64 sz) := HBL2.out.cell 3
            have k4w2 : w2.cell? ⟨w.heap.size, 4, none⟩ = some (.slice A l.length c) := HBL2.out.cell 4
            obtain ⟨bk, off, rfl, hbk, hcell⟩ := HST.out (by omega)
            have HC := Lib.hid fun (j : Nat) (u : ByteArray) (hj : l[j]? = some u) => (show w2.cell? ⟨bk, off + j, none⟩ = some (.string u) from (HB2.out.cell (p := ⟨bk, off + j, none⟩) hbk).trans (hcell j u hj))
            clear hcell
            go_wp2
            go_loop [60] (fun t => ∃ k : Nat, t = .int .i64 (k : Nat) ∧ k ≤ l.length ∧ (l.drop k).all (fun c => decide (c.size = 32)) = l.all (fun c => decide (c.size = 32))) (fun t => l.length - (intOf t).toNat)
            case atStart => exact ⟨0, rfl, Nat.zero_le _, rfl⟩
            case round =>
              obtain ⟨k, rfl, hk, hn⟩ := hrel
              have HNN := Lib.hid hn
              clear hn
              by_cases hkl : k < l.length
              · have hcx := HC.out k l[k] (List.getElem?_eq_getElem hkl)
                have HDX := Lib.hid (List.drop_eq_getElem_cons hkl)
                generalize l[k] = x at *
                by_cases h32 : x.size = 32
                · have HX := Lib.hid (show (x :: l.drop (k + 1)).all (fun c => decide (c.size = 32)) = (l.drop (k + 1)).all (fun c => decide (c.size = 32)) by rw [List.all_cons, decide_eq_true h32, Bool.true_and])
                  have hq : ((x.size : Int) != 32) = false := by simp; omega
                  clear h32
                  go_wp2
                  go_round
                  case rel => exact ⟨k + 1, by go_num, by omega, by rw [← HX.out, ← HDX.out]; exact HNN.out⟩
                  case measure => simp [intOf]; omega
                · have HX := Lib.hid (show gd = false by rw [HG.out, ← HNN.out, HDX.out, List.all_cons, decide_eq_false h32]; rfl)
                  have hq : ((x.size : Int) != 32) = true := by simp; omega
                  clear h32
                  go_wp2
                  go_ret
                  exact ⟨ret_bool (by rw [HX.out]), HB2.out⟩
              · have HX := Lib.hid (show gd = true by rw [HG.out, ← HNN.out, List.drop_of_length_le (by omega)]; rfl)
                go_wp2
                go_ret
                exact ⟨ret_bool (by rw [HX.out]), HB2.out⟩
          · have HX := Lib.hid (show gd = false by rw [HG.out, decide_eq_false hz]; simp)
            rcases (by omega : sz < 1 ∨ (¬ sz < 1 ∧ 4194304 < sz) ∨ (¬ sz < 1 ∧ ¬ 4194304 < sz ∧ (l.length : Int) < 1) ∨ (¬ sz < 1 ∧ ¬ 4194304 < sz ∧ ¬ (l.length : Int) < 1 ∧ sz < (l.length : Int))) with g | ⟨g1, g⟩ | ⟨g1, g2, g⟩ | ⟨g1, g2, g3, g⟩
            all_goals
              clear hz
              go_enter Tryd.func17, Tryd.ntmps17
              go_wp2_with fail
              refine (HD.out _).mono ?_
              rintro e w2 ⟨rfl, hb2⟩
              have HB2 := Lib.hid (HB0.out.trans (hb2.mono HB0.out.size))
              have HBL2 := Lib.hid (HBL.out.below hb2 (by simp))
              clear hb2
              have k0w2 : w2.cell? ⟨w.heap.size, 0, none⟩ = some (.int .i64 tm) := HBL2.out.cell 0
              have k1w2 : w2.cell? ⟨w.heap.size, 1, none⟩ = some (.string tag) := HBL2.out.cell 1
              have k2w2 : w2.cell? ⟨w.heap.size, 2, none⟩ = some (.string par) := HBL2.out.cell 2
              have k3w2 : w2.cell? ⟨w.heap.size, 3, none⟩ = some (.int .i64 sz) := HBL2.out.cell 3
              have k4w2 : w2.cell? ⟨w.heap.size, 4, none⟩ = some (.slice A l.length c) := HBL2.out.cell 4
              go_wp2
              go_ret
              exact ⟨ret_bool (by rw [HX.out]), HB2.out⟩
    · rw [decide_eq_false ht] at hte HG
      clear ht
      simp only [Bool.false_or] at HG
      cases hn : nameOk tag with
      | false =>
        rw [hn] at HG HN
        have HX := Lib.hid (show gd = false by rw [HG.out]; simp)
        clear hn
        go_enter Tryd.func17, Tryd.ntmps17
        go_wp2_with fail
        refine (HN.out _).mono ?_
        rintro e w1 ⟨rfl, hw1⟩
        subst hw1
        go_wp2
        go_ret
        exact ⟨ret_bool (by rw [HX.out]), HB0.out⟩
      | true =>
        rw [hn, Bool.true_and] at HG
        rw [hn] at HN
        clear hn
        by_cases hp : par.size = 0
        · rw [decide_eq_true hp] at hpe HG
          clear hp
          simp only [Bool.true_or, Bool.true_and] at HG
          by_cases hz : 1 ≤ sz ∧ sz ≤ 4194304 ∧ 1 ≤ l.length ∧ (l.length : Int) ≤ sz
          · rw [decide_eq_true hz, Bool.true_and] at HG
            obtain ⟨z1, z2, z3, z4⟩ := hz
            have z1' : ¬ sz < 1 := by omega
            have z2' : ¬ 4194304 < sz := by omega
            have z3' : ¬ (l.length : Int) < 1 := by omega
            have z4' : ¬ sz < (l.length : Int) := by omega
            go_enter Tryd.func17, Tryd.ntmps17
            go_wp2_with fail
            refine (HN.out _).mono ?_
            rintro e w1 ⟨rfl, hw1⟩
            subst hw1
            obtain ⟨bk, off, rfl, hbk, hcell⟩ := HST.out (by omega)
            have HC := Lib.hid fun (j : Nat) (u : ByteArray) (hj : l[j]? = some u) => (show (w.alloc (.cells #[.int .i64 tm, .string tag, .string par, .int .i64 sz, .slice (some ⟨bk, off, none⟩) l.length c] 30)).cell? ⟨bk, off + j, none⟩ = some (.string u) from (HB0.out.cell (p := ⟨bk, off + j, none⟩) hbk).trans (hcell j u hj))
            clear hcell
            go_wp2
            go_loop [60] (fun t => ∃ k : Nat, t = .int .i64 (k : Nat) ∧ k ≤ l.length ∧ (l.drop k).all (fun c => decide (c.size = 32)) = l.all (fun c => decide (c.size = 32))) (fun t => l.length - (intOf t).toNat)
            case atStart => exact ⟨0, rfl, Nat.zero_le _, rfl⟩
            case round =>
              obtain ⟨k, rfl, hk, hn⟩ := hrel
              have HNN := Lib.hid hn
              clear hn
              by_cases hkl : k < l.length
              · have hcx := HC.out k l[k] (List.getElem?_eq_getElem hkl)
                have HDX := Lib.hid (List.drop_eq_getElem_cons hkl)
                generalize l[k] = x at *
                by_cases h32 : x.size = 32
                · have HX := Lib.hid (show (x :: l.drop (k + 1)).all (fun c => decide (c.size = 32)) = (l.drop (k + 1)).all (fun c => decide (c.size = 32)) by rw [List.all_cons, decide_eq_true h32, Bool.true_and])
                  have hq : ((x.size : Int) != 32) = false := by simp; omega
                  clear h32
                  go_wp2
                  go_round
                  case rel => exact ⟨k + 1, by go_num, by omega, by rw [← HX.out, ← HDX.out]; exact HNN.out⟩
                  case measure => simp [intOf]; omega
                · have HX := Lib.hid (show gd = false by rw [HG.out, ← HNN.out, HDX.out, List.all_cons, decide_eq_false h32]; rfl)
                  have hq : ((x.size : Int) != 32) = true := by simp; omega
                  clear h32
                  go_wp2
                  go_ret
                  exact ⟨ret_bool (by rw [HX.out]), HB0.out⟩
              · have HX := Lib.hid (show gd = true by rw [HG.out, ← HNN.out, List.drop_of_length_le (by omega)]; rfl)
                go_wp2
                go_ret
                exact ⟨ret_bool (by rw [HX.out]), HB0.out⟩
          · have HX := Lib.hid (show gd = false by rw [HG.out, decide_eq_false hz]; simp)
            rcases (by omega : sz < 1 ∨ (¬ sz < 1 ∧ 4194304 < sz) ∨ (¬ sz < 1 ∧ ¬ 4194304 < sz ∧ (l.length : Int) < 1) ∨ (¬ sz < 1 ∧ ¬ 4194304 < sz ∧ ¬ (l.length : Int) < 1 ∧ sz < (l.length : Int))) with g | ⟨g1, g⟩ | ⟨g1, g2, g⟩ | ⟨g1, g2, g3, g⟩
            all_goals
              clear hz
              go_enter Tryd.func17, Tryd.ntmps17
              go_wp2_with fail
              refine (HN.out _).mono ?_
              rintro e w1 ⟨rfl, hw1⟩
              subst hw1
              go_wp2
              go_ret
              exact ⟨ret_bool (by rw [HX.out]), HB0.out⟩
        · rw [decide_eq_false hp] at hpe HG
          clear hp
          simp only [Bool.false_or] at HG
          cases hd : isNameD par with
          | false =>
            rw [hd] at HG
            rw [hd] at HD
            clear hd
            have HX := Lib.hid (show gd = false by rw [HG.out]; simp)
            go_enter Tryd.func17, Tryd.ntmps17
            go_wp2_with fail
            refine (HN.out _).mono ?_
            rintro e w1 ⟨rfl, hw1⟩
            subst hw1
            go_wp2_with fail
            refine (HD.out _).mono ?_
            rintro e w2 ⟨rfl, hb2⟩
            have HB2 := Lib.hid (HB0.out.trans (hb2.mono HB0.out.size))
            have HBL2 := Lib.hid (HBL.out.below hb2 (by simp))
            clear hb2
            have k0w2 : w2.cell? ⟨w.heap.size, 0, none⟩ = some (.int .i64 tm) := HBL2.out.cell 0
            have k1w2 : w2.cell? ⟨w.heap.size, 1, none⟩ = some (.string tag) := HBL2.out.cell 1
            have k2w2 : w2.cell? ⟨w.heap.size, 2, none⟩ = some (.string par) := HBL2.out.cell 2
            have k3w2 : w2.cell? ⟨w.heap.size, 3, none⟩ = some (.int .i64 sz) := HBL2.out.cell 3
            have k4w2 : w2.cell? ⟨w.heap.size, 4, none⟩ = some (.slice A l.length c) := HBL2.out.cell 4
            go_wp2
            go_ret
            exact ⟨ret_bool (by rw [HX.out]), HB2.out⟩
          | true =>
            rw [hd, Bool.true_and] at HG
            rw [hd] at HD
            clear hd
            by_cases hz : 1 ≤ sz ∧ sz ≤ 4194304 ∧ 1 ≤ l.length ∧ (l.length : Int) ≤ sz
            · rw [decide_eq_true hz, Bool.true_and] at HG
              obtain ⟨z1, z2, z3, z4⟩ := hz
              have z1' : ¬ sz < 1 := by omega
              have z2' : ¬ 4194304 < sz := by omega
              have z3' : ¬ (l.length : Int) < 1 := by omega
              have z4' : ¬ sz < (l.length : Int) := by omega
              go_enter Tryd.func17, Tryd.ntmps17
              go_wp2_with fail
              refine (HN.out _).mono ?_
              rintro e w1 ⟨rfl, hw1⟩
              subst hw1
              go_wp2_with fail
              refine (HD.out _).mono ?_
              rintro e w2 ⟨rfl, hb2⟩
              have HB2 := Lib.hid (HB0.out.trans (hb2.mono HB0.out.size))
              have HBL2 := Lib.hid (HBL.out.below hb2 (by simp))
              clear hb2
              have k0w2 : w2.cell? ⟨w.heap.size, 0, none⟩ = some (.int .i64 tm) := HBL2.out.cell 0
              have k1w2 : w2.cell? ⟨w.heap.size, 1, none⟩ = some (.string tag) := HBL2.out.cell 1
              have k2w2 : w2.cell? ⟨w.heap.size, 2, none⟩ = some (.string par) := HBL2.out.cell 2
              have k3w2 : w2.cell? ⟨w.heap.size, 3, none⟩ = some (.int .i64 sz) := HBL2.out.cell 3
              have k4w2 : w2.cell? ⟨w.heap.size, 4, none⟩ = some (.slice A l.length c) := HBL2.out.cell 4
              obtain ⟨bk, off, rfl, hbk, hcell⟩ := HST.out (by omega)
              have HC := Lib.hid fun (j : Nat) (u : ByteArray) (hj : l[j]? = some u) => (show w2.cell? ⟨bk, off + j, none⟩ = some (.string u) from (HB2.out.cell (p := ⟨bk, off + j, none⟩) hbk).trans (hcell j u hj))
              clear hcell
              go_wp2
              go_loop [60] (fun t => ∃ k : Nat, t = .int .i64 (k : Nat) ∧ k ≤ l.length ∧ (l.drop k).all (fun c => decide (c.size = 32)) = l.all (fun c => decide (c.size = 32))) (fun t => l.length - (intOf t).toNat)
              case atStart => exact ⟨0, rfl, Nat.zero_le _, rfl⟩
              case round =>
                obtain ⟨k, rfl, hk, hn⟩ := hrel
                have HNN := Lib.hid hn
                clear hn
                by_cases hkl : k < l.length
                · have hcx := HC.out k l[k] (List.getElem?_eq_getElem hkl)
                  have HDX := Lib.hid (List.drop_eq_getElem_cons hkl)
                  generalize l[k] = x at *
                  by_cases h32 : x.size = 32
                  · have HX := Lib.hid (show (x :: l.drop (k + 1)).all (fun c => decide (c.size = 32)) = (l.drop (k + 1)).all (fun c => decide (c.size = 32)) by rw [List.all_cons, decide_eq_true h32, Bool.true_and])
                    have hq : ((x.size : Int) != 32) = false := by simp; omega
                    clear h32
                    go_wp2
                    go_round
                    case rel => exact ⟨k + 1, by go_num, by omega, by rw [← HX.out, ← HDX.out]; exact HNN.out⟩
                    case measure => simp [intOf]; omega
                  · have HX := Lib.hid (show gd = false by rw [HG.out, ← HNN.out, HDX.out, List.all_cons, decide_eq_false h32]; rfl)
                    have hq : ((x.size : Int) != 32) = true := by simp; omega
                    clear h32
                    go_wp2
                    go_ret
                    exact ⟨ret_bool (by rw [HX.out]), HB2.out⟩
                · have HX := Lib.hid (show gd = true by rw [HG.out, ← HNN.out, List.drop_of_length_le (by omega)]; rfl)
                  go_wp2
                  go_ret
                  exact ⟨ret_bool (by rw [HX.out]), HB2.out⟩
            · have HX := Lib.hid (show gd = false by rw [HG.out, decide_eq_false hz]; simp)
              rcases (by omega : sz < 1 ∨ (¬ sz < 1 ∧ 4194304 < sz) ∨ (¬ sz < 1 ∧ ¬ 4194304 < sz ∧ (l.length : Int) < 1) ∨ (¬ sz < 1 ∧ ¬ 4194304 < sz ∧ ¬ (l.length : Int) < 1 ∧ sz < (l.length : Int))) with g | ⟨g1, g⟩ | ⟨g1, g2, g⟩ | ⟨g1, g2, g3, g⟩
              all_goals
                clear hz
                go_enter Tryd.func17, Tryd.ntmps17
                go_wp2_with fail
                refine (HN.out _).mono ?_
                rintro e w1 ⟨rfl, hw1⟩
                subst hw1
                go_wp2_with fail
                refine (HD.out _).mono ?_
                rintro e w2 ⟨rfl, hb2⟩
                have HB2 := Lib.hid (HB0.out.trans (hb2.mono HB0.out.size))
                have HBL2 := Lib.hid (HBL.out.below hb2 (by simp))
                clear hb2
                have k0w2 : w2.cell? ⟨w.heap.size, 0, none⟩ = some (.int .i64 tm) := HBL2.out.cell 0
                have k1w2 : w2.cell? ⟨w.heap.size, 1, none⟩ = some (.string tag) := HBL2.out.cell 1
                have k2w2 : w2.cell? ⟨w.heap.size, 2, none⟩ = some (.string par) := HBL2.out.cell 2
                have k3w2 : w2.cell? ⟨w.heap.size, 3, none⟩ = some (.int .i64 sz) := HBL2.out.cell 3
                have k4w2 : w2.cell? ⟨w.heap.size, 4, none⟩ = some (.slice A l.length c) := HBL2.out.cell 4
                go_wp2
                go_ret
                exact ⟨ret_bool (by rw [HX.out]), HB2.out⟩
  · have HX := Lib.hid (show gd = false by rw [HG.out, decide_eq_false h1]; simp)
    rcases (by omega : tm < 0 ∨ (¬ tm < 0 ∧ 253402300799 < tm)) with g | ⟨g1, g⟩
    all_goals
      clear h1
      go_enter Tryd.func17, Tryd.ntmps17
      go_wp2
      go_ret
      exact ⟨ret_bool (by rw [HX.out]), HB0.out⟩
end Go.Proofs.YtbjompcaekbjoaaDoor
