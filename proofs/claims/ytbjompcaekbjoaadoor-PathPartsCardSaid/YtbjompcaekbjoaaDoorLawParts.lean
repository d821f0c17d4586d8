/- PathParts, walked. -/
import Derived.Test.YtbjompcaekbjoaaDoorRw
import Derived.SizedLaws
namespace Go.Proofs.YtbjompcaekbjoaaDoor
open Go.RowKit

/-- Name, and Is, of a text however long -/
theorem pname_big (s : ByteArray) (w : World) (he : Env w) (hs : s.size ≤ 281474976710656) : Calls Tryd.prog 35 #[.string s] w fun e w' => e = .returned (.bool (nameOk s)) ∧ Below w.heap.size w w' := by
  by_cases h : s.size ≤ 1099511627776
  · exact pname_any s w he h
  · have HN := Lib.hid (show nameOk s = false by unfold nameOk; rw [decide_eq_false (show ¬ s.size ≤ 60 by omega)]; simp)
    have ne : ∀ (l : List UInt8), l.length < 10 → s ≠ ⟨l.toArray⟩ := fun l hl e => by
      have : s.size = l.length := by rw [e]; exact List.size_toArray
      omega
    have hq0 := toList_nil (s := s) (by omega)
    have hq1 := list_ne (ne [46] (by decide))
    have hq2 := list_ne (ne [46, 46] (by decide))
    have h60 : (60 : Int) < (s.size : Int) := by omega
    clear ne
    go_enter Tryd.func35, Tryd.ntmps35
    go_wp2
    go_ret
    exact ⟨ret_bool HN.out.symm, Below.refl _ _⟩
attribute [local go_sem] Oper.semAt_some in
theorem pis_big (s : ByteArray) (w : World) (he : Env w) (hs : s.size ≤ 281474976710656) : Calls Tryd.prog 37 #[.string s] w fun e w' => e = .returned (.bool (isPath s)) ∧ Below w.heap.size w w' := by
  by_cases h : s.size ≤ 1099511627776
  · exact pis_any s w he h
  · refine (callsIn_wide (n := 8)).1 ?_
    refine callsIn_of_wp_marks Tryd.func37 rfl trivial ?_ rfl
    simp only [Tryd.ntmps37, List.size_toArray, List.length_cons, List.length_nil, Nat.reduceAdd, Nat.reduceSub, Array.replicate_succ, Array.replicate_zero, List.push_toArray, List.append_toArray, List.nil_append, List.cons_append]
    have hcell := oneNew_cell w (.bool false) 4
    have HB0 := Lib.hid ((Below.refl w.heap.size w).alloc (Nat.le_refl _) (.cells #[.bool false] 4))
    have HF := Lib.hid (show isPath s = false by unfold isPath; rw [decide_eq_false (show ¬ s.size ≤ 200 by omega)]; simp)
    have h200 : (200 : Int) < (s.size : Int) := by omega
    gi_wp2
    refine ⟨trivial, ?_⟩
    gi_wp2
    exact ⟨.bool false, by simp [results, Tryd.f37, go_sem, hcell], by rw [HF.out], HB0.out⟩

theorem same_txt {a b : ByteArray} (h : a = b) : (a.toList == b.toList) = true := by rw [h]; simp
theorem txt_some {s : ByteArray} (h : s ≠ ⟨#[]⟩) : s.toList.isEmpty = false := toList_nil (Nat.pos_of_ne_zero fun e => h (size0 e))

set_option maxRecDepth 100000 in
set_option maxHeartbeats 1600000 in
theorem parts_all (s n : ByteArray) (w : World) (he : Env w) (hs : s.data.toList.length ≤ reachBytes) (hn : n.data.toList.length ≤ reachBytes) : Calls Tryd.prog 10 #[.string s, .string n] w fun e w' => e = .returned (.bool true) ∧ Below w.heap.size w w' := by
  have hr := reachBytes_lt
  have hs1 : s.size ≤ 140737488355328 := by have : s.data.toList.length = s.size := by simp
                                            omega
  have hn1 : n.size ≤ 140737488355328 := by have : n.data.toList.length = n.size := by simp
                                            omega
  clear hs hn hr
  have HE := Lib.hid fun W (hb : Below w.heap.size w W) => he.below hb
  have H1 := Lib.hid (pis_big s w he (by omega))
  have H2 := Lib.hid fun W (h : Env W) => awake11_any W h
  cases hp : isPath s with
  | false =>
    rw [hp] at H1
    clear hp
    go_enter Tryd.func10, Tryd.ntmps10
    go_wp2_with fail
    refine H1.out.mono ?_
    rintro e w1 ⟨rfl, g1⟩
    go_wp2_with fail
    refine (H2.out w1 (HE.out _ g1)).mono ?_
    rintro e w2 ⟨rfl, hb2⟩
    have g2 := g1.trans (hb2.mono g1.size)
    go_wp2
    go_ret
    exact ⟨rfl, g2⟩
  | true =>
    rw [hp] at H1
    obtain ⟨hbn, hcase⟩ := path_two s hp
    have hin := fun hn => path_in s n hp hn
    have hz := ((isPath_iff s).1 hp).1
    have hsl := ((isPath_iff s).1 hp).2.1
    have hbz : (baseP s).size ≤ 200 := by unfold baseP; rw [ByteArray.size_extract]; omega
    have hpz : (parentP s).size ≤ 200 := by unfold parentP; rw [ByteArray.size_extract]; omega
    have H3 := Lib.hid fun W => pparent_any s W (by omega)
    have H4 := Lib.hid fun W => pbase_any s W (by omega)
    have H5 := Lib.hid fun W (h : Env W) => pname_any (baseP s) W h (by omega)
    rw [hbn] at H5
    have H6 := Lib.hid fun W (h : Env W) => pname_big n W h (by omega)
    have hiz : (s ++ ⟨#[47]⟩ ++ n).size = s.size + 1 + n.size := by rw [ByteArray.size_append, ByteArray.size_append]; rfl
    have H7 := Lib.hid fun W (h : Env W) => pis_big (s ++ ⟨#[47]⟩ ++ n) W h (by omega)
    have HIN := Lib.hid hin
    have HSTEP := Lib.hid (slashes_step s)
    have HALL := Lib.hid (show s.data.toList.take s.size = s.data.toList from List.take_of_length_le (by simp))
    have hc1 : s.size + 1 ≤ 4000 := by omega
    have hc3 : (s ++ ⟨#[47]⟩).size = s.size + 1 := by rw [ByteArray.size_append]; rfl
    have hc2 : (s ++ ⟨#[47]⟩).size + n.size ≤ 281474976710656 := by omega
    clear hin hbn hp hiz hc3
    -- the rest, whatever the parent
    rcases hcase with ⟨e1, e2⟩ | ⟨e1, e2, e3, e4⟩
    case' inl =>
      rw [e1] at H3
      rw [e2] at H4 H5
      clear e1 e2 hbz hpz
      go_enter Tryd.func10, Tryd.ntmps10
      go_wp2_with fail
      refine H1.out.mono ?_
      rintro e w1 ⟨rfl, g1⟩
      go_wp2_with fail
      refine (H3.out w1).mono ?_
      rintro e w2 ⟨rfl, rfl⟩
      go_wp2_with fail
      refine (H4.out w1).mono ?_
      rintro e w2 ⟨rfl, rfl⟩
      go_wp2_with fail
      refine (H5.out w1 (HE.out _ g1)).mono ?_
      rintro e w2 ⟨rfl, hb2⟩
      have g2 := g1.trans (hb2.mono g1.size)
      clear g1 hb2 H1 H3 H4 H5
    case' inr =>
      have H8 := Lib.hid fun W (h : Env W) => pis_big (parentP s) W h (by omega)
      rw [e3] at H8
      have H9 := Lib.hid fun W (h : Env W) => pcompare_any (parentP s) s W h (by omega) (by omega)
      rw [e4] at H9
      have hpe := txt_some e1
      have hd1 : (parentP s).size + 1 ≤ 4000 := by omega
      have hd3 : (parentP s ++ ⟨#[47]⟩).size = (parentP s).size + 1 := by rw [ByteArray.size_append]; rfl
      have hd2 : (parentP s ++ ⟨#[47]⟩).size + (baseP s).size ≤ 4000 := by omega
      have hsame := same_txt e2
      clear e1 e2 e3 e4 hd3 hbz hpz
      generalize parentP s = p at *
      generalize baseP s = b at *
      go_enter Tryd.func10, Tryd.ntmps10
      go_wp2_with fail
      refine H1.out.mono ?_
      rintro e w1 ⟨rfl, g1⟩
      go_wp2_with fail
      refine (H3.out w1).mono ?_
      rintro e w2 ⟨rfl, rfl⟩
      go_wp2_with fail
      refine (H4.out w1).mono ?_
      rintro e w2 ⟨rfl, rfl⟩
      go_wp2_with fail
      refine (H8.out w1 (HE.out _ g1)).mono ?_
      rintro e w3 ⟨rfl, hb3⟩
      have g3 := g1.trans (hb3.mono g1.size)
      go_wp2_with fail
      refine (H9.out w3 (HE.out _ g3)).mono ?_
      rintro e w4 ⟨rfl, hb4⟩
      have g4 := g3.trans (hb4.mono g3.size)
      go_wp2_with fail
      refine (H5.out w4 (HE.out _ g4)).mono ?_
      rintro e w2 ⟨rfl, hb2⟩
      have g2 := g4.trans (hb2.mono g4.size)
      clear g1 hb2 g3 hb3 g4 hb4 H1 H3 H4 H5 H8 H9 hsame hpe hd1 hd2
    all_goals
      have HG2 := Lib.hid g2
      clear g2
      go_wp2
      go_loop [8, 9] (fun t i => ∃ k : Nat, i = .int .i64 (k : Nat) ∧ k ≤ s.size ∧ t = .int .i64 (slashes (s.data.toList.take k) : Nat) ∧ slashes (s.data.toList.take k) ≤ k) (fun _ i => s.size - (intOf i).toNat)
      case atStart => exact ⟨0, rfl, Nat.zero_le _, rfl, Nat.le_refl _⟩
      case round =>
        obtain ⟨k, rfl, hk, rfl, hsk⟩ := hrel
        by_cases hlt : k < s.size
        · have HS := Lib.hid (HSTEP.out k hlt)
          generalize hd : slashes (s.data.toList.take k) = d at *
          clear hd
          by_cases h : s[k] = 47
          · have hq : (s[k].toNat : Int) = 47 := by rw [h]; rfl
            rw [if_pos h] at HS
            go_wp2
            go_round
            case rel => exact ⟨k + 1, by go_num, by omega, by rw [HS.out]; go_num, by rw [HS.out]; omega⟩
            case measure => simp [intOf]; omega
          · have hq : ¬ (s[k].toNat : Int) = 47 := by
              intro e
              apply h
              apply UInt8.toNat_inj.1
              have : s[k].toNat = 47 := by omega
              rw [this]; rfl
            rw [if_neg h] at HS
            go_wp2
            go_round
            case rel => exact ⟨k + 1, by go_num, by omega, by rw [HS.out]; rfl, by rw [HS.out]; omega⟩
            case measure => simp [intOf]; omega
        · obtain rfl : k = s.size := by omega
          have HA := HALL.out
          rw [HA] at hsk ⊢
          clear HA HALL HSTEP
          cases hnm : nameOk n with
          | false =>
            rw [hnm] at H6
            clear hnm HIN
            generalize slashes s.data.toList = d at *
            go_wp2_with fail
            refine (H2.out w2 (HE.out _ HG2.out)).mono ?_
            rintro e w5 ⟨rfl, hb5⟩
            have g5 := HG2.out.trans (hb5.mono HG2.out.size)
            go_wp2_with fail
            refine (H6.out w5 (HE.out _ g5)).mono ?_
            rintro e w6 ⟨rfl, hb6⟩
            have g6 := g5.trans (hb6.mono g5.size)
            go_wp2
            go_ret
            exact ⟨rfl, g6⟩
          | true =>
            rw [hnm] at H6
            have hi := HIN.out hnm
            rw [hi] at H7
            clear hnm hi HIN
            generalize slashes s.data.toList = d at *
            generalize s ++ ⟨#[47]⟩ ++ n = u at *
            by_cases h1 : d < 7
            · rw [decide_eq_true h1, Bool.true_and] at H7
              have h1' : (d : Int) < 7 := by omega
              by_cases h2 : u.size ≤ 200
              · rw [decide_eq_true h2] at H7
                have h2' : (u.size : Int) ≤ 200 := by omega
                go_wp2_with fail
                refine (H2.out w2 (HE.out _ HG2.out)).mono ?_
                rintro e w5 ⟨rfl, hb5⟩
                have g5 := HG2.out.trans (hb5.mono HG2.out.size)
                go_wp2_with fail
                refine (H6.out w5 (HE.out _ g5)).mono ?_
                rintro e w6 ⟨rfl, hb6⟩
                have g6 := g5.trans (hb6.mono g5.size)
                go_wp2_with fail
                refine (H7.out w6 (HE.out _ g6)).mono ?_
                rintro e w7 ⟨rfl, hb7⟩
                have g7 := g6.trans (hb7.mono g6.size)
                go_wp2
                go_ret
                exact ⟨rfl, g7⟩
              · rw [decide_eq_false h2] at H7
                have h2' : decide ((u.size : Int) ≤ 200) = false := decide_eq_false (by omega)
                go_wp2_with fail
                refine (H2.out w2 (HE.out _ HG2.out)).mono ?_
                rintro e w5 ⟨rfl, hb5⟩
                have g5 := HG2.out.trans (hb5.mono HG2.out.size)
                go_wp2_with fail
                refine (H6.out w5 (HE.out _ g5)).mono ?_
                rintro e w6 ⟨rfl, hb6⟩
                have g6 := g5.trans (hb6.mono g5.size)
                go_wp2_with fail
                refine (H7.out w6 (HE.out _ g6)).mono ?_
                rintro e w7 ⟨rfl, hb7⟩
                have g7 := g6.trans (hb7.mono g6.size)
                go_wp2
                go_ret
                exact ⟨rfl, g7⟩
            · rw [decide_eq_false h1, Bool.false_and] at H7
              have h1' : ¬ (d : Int) < 7 := by omega
              go_wp2_with fail
              refine (H2.out w2 (HE.out _ HG2.out)).mono ?_
              rintro e w5 ⟨rfl, hb5⟩
              have g5 := HG2.out.trans (hb5.mono HG2.out.size)
              go_wp2_with fail
              refine (H6.out w5 (HE.out _ g5)).mono ?_
              rintro e w6 ⟨rfl, hb6⟩
              have g6 := g5.trans (hb6.mono g5.size)
              go_wp2_with fail
              refine (H7.out w6 (HE.out _ g6)).mono ?_
              rintro e w7 ⟨rfl, hb7⟩
              have g7 := g6.trans (hb7.mono g6.size)
              go_wp2
              go_ret
              exact ⟨rfl, g7⟩
end Go.Proofs.YtbjompcaekbjoaaDoor
