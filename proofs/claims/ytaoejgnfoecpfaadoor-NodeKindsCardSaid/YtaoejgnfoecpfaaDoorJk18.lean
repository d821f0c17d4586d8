/- NodeKinds: its walk, of kinds other than 2 (printed by wip/gen/mknk.py). -/
import Derived.Test.YtaoejgnfoecpfaaDoorJk17
namespace Go.Proofs.YtaoejgnfoecpfaaDoor
set_option linter.unusedVariables false
set_option linter.unusedSimpArgs false
set_option linter.unusedSectionVars false
open Go.RowKit

set_option maxRecDepth 100000 in
set_option maxHeartbeats 12800000 in
theorem nkinds_other (k : Int) (a tg : ByteArray) (m t z : Int) (ch : List ByteArray) (A : Option Addr) (c : Nat) (w : World) (he : Env w) (hs : StrsA w w.heap.size A ch) (hn : A = none → c = 0) (hb : tg.size ≤ 140737488355328) (hc : ch.length * 16 ≤ 140737488355328) (hk : k ≠ 2) :
    Calls Tryd.prog 8 #[.agg #[.int .i64 k, .string a, .int .i64 m, .int .i64 t, .int .i64 z, .slice A ch.length c, .string tg]] w fun e w' => e = .returned (.bool true) ∧ Below w.heap.size w w' := by
  have HE := Lib.hid fun W (hb : Below w.heap.size w W) => he.below hb
  have HAW := Lib.hid fun W (h : Env W) => awake12_any W h
  have HB0 := Lib.hid ((Below.refl w.heap.size w).alloc (Nat.le_refl _) (.cells #[.int .i64 k, .string a, .int .i64 m, .int .i64 t, .int .i64 z, .slice A ch.length c, .string tg] 72))
  have HK0 := Lib.hid (Blk.new w 72 #[.int .i64 k, .string a, .int .i64 m, .int .i64 t, .int .i64 z, .slice A ch.length c, .string tg])
  have HS0 := Lib.hid (hs.below ((Below.refl w.heap.size w).alloc (Nat.le_refl _) (.cells #[.int .i64 k, .string a, .int .i64 m, .int .i64 t, .int .i64 z, .slice A ch.length c, .string tg] 72)))
  have HTG := Lib.hid fun W => target_any tg W hb
  have HRT := Lib.hid fun W => rtarget_any tg W hb
  have HOF := Lib.hid fun W (h : StrsA W W.heap.size A ch) => of_big ⟨k, a, m, t, z, ch, tg⟩ A c W h hn hc
  have hq : (k == 2) = false := by simpa using hk
  have HKN := Lib.hid hk
  clear he hs hk
  go_enter Tryd.func8, Tryd.ntmps8
  go_upto_region 1 with fail
  generalize w.alloc (.cells #[.int .i64 k, .string a, .int .i64 m, .int .i64 t, .int .i64 z, .slice A ch.length c, .string tg] 72) = w1 at *
  obtain ⟨⟨q0, q1, q2, q3, q4, q5, q6⟩, _⟩ := blk7' HK0.out
  go_wp2_with fail
  refine (HOF.out _ HS0.out).mono ?_
  rintro e w2 ⟨v, rfl, hv, hnb, hb2, h4, hnil⟩
  have HB2 := Lib.hid (HB0.out.trans (hb2.mono HB0.out.size))
  have HK2 := Lib.hid (HK0.out.below hb2 HK0.out.lt)
  have HNP := Lib.hid (show NoPl v from by
    rcases hv with ⟨_, h⟩ | ⟨h, _⟩ | ⟨_, h⟩ | ⟨_, h | ⟨g, h⟩⟩
    · exact .inl ⟨_, h⟩
    · exact absurd h HKN.out
    · exact .inr (.inl ⟨_, h⟩)
    · exact .inr (.inr (.inr h))
    · exact .inr (.inr (.inl ⟨_, h⟩)))
  have HV := Lib.hid hv
  have H4 := Lib.hid h4
  have HNIL := Lib.hid hnil
  clear q0 q1 q2 q3 q4 q5 q6 hb2 hnb HOF HS0 hv h4 hnil
  have HAP := Lib.hid fun W => asPlain_no v HNP.out W
  go_wp2_with fail
  refine (HAP.out _).mono ?_
  rintro e w3 ⟨rfl, hb3⟩
  have HB3 := Lib.hid (HB2.out.trans (hb3.mono HB2.out.size))
  have HK3 := Lib.hid (HK2.out.below hb3 HK2.out.lt)
  have hba := (Below.refl w3.heap.size w3).alloc (Nat.le_refl _) (.cells #[.string ⟨#[]⟩, .int .i64 0, .int .i64 0, .int .i64 0, .slice none 0 0] 75)
  have HP4 := Lib.hid (Blk.new w3 75 #[.string ⟨#[]⟩, .int .i64 0, .int .i64 0, .int .i64 0, .slice none 0 0])
  have HB4 := Lib.hid (HB3.out.trans (hba.mono HB3.out.size))
  have HX4 := Lib.hid (hb3.trans (hba.mono hb3.size))
  have HK4 := Lib.hid (HK3.out.below hba HK3.out.lt)
  clear hba hb3 HB2 HK2 HAP HB3 HK3
  go_upto_region 3 with fail
  generalize w3.alloc (.cells #[.string ⟨#[]⟩, .int .i64 0, .int .i64 0, .int .i64 0, .slice none 0 0] 75) = w4 at *
  obtain ⟨⟨q0, q1, q2, q3, q4, q5, q6⟩, _⟩ := blk7' HK4.out
  obtain ⟨p0, p1, p2, p3, p4⟩ := blk5 HP4.out
  have hb5 := (Below.refl w4.heap.size w4).alloc (Nat.le_refl _) (.cells #[.string ⟨#[]⟩, .int .i64 0, .int .i64 0, .int .i64 0, .slice none 0 0] 75)
  have HQ7 := Lib.hid (Blk.new w4 75 #[.string ⟨#[]⟩, .int .i64 0, .int .i64 0, .int .i64 0, .slice none 0 0])
  have HK7 := Lib.hid (HK4.out.below hb5 HK4.out.lt)
  have HP7 := Lib.hid (HP4.out.below hb5 HP4.out.lt)
  have HB7 := Lib.hid (HB4.out.trans (hb5.mono HB4.out.size))
  have HX7 := Lib.hid (HX4.out.trans (hb5.mono HX4.out.size))
  clear hb5 HK4 HP4 HB4 HX4
  go_upto_region 7 with fail
  generalize w4.alloc (.cells #[.string ⟨#[]⟩, .int .i64 0, .int .i64 0, .int .i64 0, .slice none 0 0] 75) = w7 at *
  clear q0 q1 q2 q3 q4 q5 q6 p0 p1 p2 p3 p4
  obtain ⟨⟨q0, q1, q2, q3, q4, q5, q6⟩, _⟩ := blk7' HK7.out
  have HKR := Lib.hid (show kindR ⟨k, a, m, t, z, ch, tg⟩ = if 1 ≤ k ∧ k ≤ 3 then k else 0 by
    unfold kindR kindOk
    simp only [Bool.and_eq_true, decide_eq_true_eq])
  go_upto_region 8 with fail
  go_cut [33] (fun v8 wc => v8 = .bool (decide (k < 1) || decide (3 < k)) ∧ w7 = wc)
  case first =>
    go_wp2_with fail
    all_goals
      go_meet
      refine ⟨?_, rfl⟩
      first | rfl | (congr 1; symm; simp; omega)
  case rest =>
  obtain ⟨rfl, rfl⟩ := hcut
  go_upto_if 33 with fail
  go_cut [8] (fun v8 wc => v8 = .int .i64 (kindR ⟨k, a, m, t, z, ch, tg⟩) ∧ w7 = wc)
  case first =>
    by_cases h : 1 ≤ k ∧ k ≤ 3
    · have hx : (decide (k < 1) || decide (3 < k)) = false := by simp; omega
      rw [hx]
      clear hx
      go_wp2_with fail
      go_meet
      exact ⟨by rw [HKR.out, if_pos h], rfl⟩
    · have hx : (decide (k < 1) || decide (3 < k)) = true := by simp; omega
      rw [hx]
      clear hx
      go_wp2_with fail
      go_meet
      exact ⟨by rw [HKR.out, if_neg h], rfl⟩
  case rest =>
  obtain ⟨rfl, rfl⟩ := hcut
  have HCL := Lib.hid fun W (hW : Below w7.heap.size w7 W) => (show W.cell? ⟨w.heap.size, 1, none⟩ = some (.string a) ∧ True from ⟨(HK7.out.below hW HK7.out.lt).cell 1, trivial⟩)
  have HEE := Lib.hid fun W (hW : Below w7.heap.size w7 W) => HE.out W (HB7.out.trans (hW.mono HB7.out.size))
  have HKK := Lib.hid fun W (hW : Below w7.heap.size w7 W) => kind_any _ _ W ((HV.out.below HX7.out).below hW)
  have hta : (a.toList != a.toList) = false := by simp
  clear q0 q1 q2 q3 q4 q5 q6
  go_upto_region 10 with fail
  generalize kindR ⟨k, a, m, t, z, ch, tg⟩ = kr at *
  go_cut [57] (fun v wc => v = .bool false ∧ Below w7.heap.size w7 wc)
  case first =>
    rcases HV.out with ⟨hk1, rfl⟩ | ⟨h, _⟩ | ⟨hk1, rfl⟩ | ⟨hko, hor⟩
    · clear hk1
      have hme := mFol
      have hcf := cfFol
      unfold folV
      simp only
      refine wp_region_below (by kernel_rfl) (by kernel_rfl) ?_
      repeat
        first
          | go_big_quiet_skip
          | (go_big_quiet_want
             go_big_quiet_op
             first
               | go_big_quiet_on
               | (refine ⟨_, fun _ _ => rfl, ?_⟩; go_big_quiet_on)
               | (apply Exists.intro
                  refine ⟨fun W hW => ?_, ?_⟩
                  first
                    | (go_at_call 24; refine (HAW.out W (HEE.out W hW)).mono ?_; rintro e w8 ⟨rfl, hb8⟩; exact ⟨rfl, hW.trans (hb8.mono hW.size)⟩)
                    | (go_at_call 16; refine (HKK.out W hW).mono ?_; rintro e w8 ⟨rfl, rfl⟩; exact ⟨rfl, hW⟩)
                    | (go_at_call 176; refine (pathF a m t W).mono ?_; rintro e w8 ⟨rfl, hb8⟩; exact ⟨rfl, hW.trans (hb8.mono hW.size)⟩)
                    | (obtain ⟨g0, g1⟩ := HCL.out W hW; go_simp; done)
                    | (obtain ⟨g0, g1⟩ := HCL.out W hW; go_simp; rfl)
                  go_big_quiet_on))
      refine wpQuiet_nil ?_
      intro w8 hb8
      go_wp2
      go_meet
      exact ⟨rfl, hb8⟩
    · exact absurd h HKN.out
    · clear hk1
      have hme := mSym
      have hcf := cfSym
      unfold symV
      simp only
      refine wp_region_below (by kernel_rfl) (by kernel_rfl) ?_
      repeat
        first
          | go_big_quiet_skip
          | (go_big_quiet_want
             go_big_quiet_op
             first
               | go_big_quiet_on
               | (refine ⟨_, fun _ _ => rfl, ?_⟩; go_big_quiet_on)
               | (apply Exists.intro
                  refine ⟨fun W hW => ?_, ?_⟩
                  first
                    | (go_at_call 24; refine (HAW.out W (HEE.out W hW)).mono ?_; rintro e w8 ⟨rfl, hb8⟩; exact ⟨rfl, hW.trans (hb8.mono hW.size)⟩)
                    | (go_at_call 16; refine (HKK.out W hW).mono ?_; rintro e w8 ⟨rfl, rfl⟩; exact ⟨rfl, hW⟩)
                    | (go_at_call 179; refine (pathS a m t tg W).mono ?_; rintro e w8 ⟨rfl, hb8⟩; exact ⟨rfl, hW.trans (hb8.mono hW.size)⟩)
                    | (obtain ⟨g0, g1⟩ := HCL.out W hW; go_simp; done)
                    | (obtain ⟨g0, g1⟩ := HCL.out W hW; go_simp; rfl)
                  go_big_quiet_on))
      refine wpQuiet_nil ?_
      intro w8 hb8
      go_wp2
      go_meet
      exact ⟨rfl, hb8⟩
    · by_cases hk4 : k = 4
      · obtain ⟨g, rfl, hg⟩ := H4.out hk4
        have HPT := Lib.hid (hg.below HX7.out hg.lt)
        have hme := fun n W (hW : Below w7.heap.size w7 W) => mPtr (HPT.out.below hW HPT.out.lt) n
        have hcf := cfFol
        clear hor hg hk4
        refine wp_region_below (by kernel_rfl) (by kernel_rfl) ?_
        repeat
          first
            | go_big_quiet_skip
            | (go_big_quiet_want
               go_big_quiet_op
               first
                 | go_big_quiet_on
                 | (refine ⟨_, fun _ _ => rfl, ?_⟩; go_big_quiet_on)
                 | (apply Exists.intro
                    refine ⟨fun W hW => ?_, ?_⟩
                    first
                      | (go_at_call 24; refine (HAW.out W (HEE.out W hW)).mono ?_; rintro e w8 ⟨rfl, hb8⟩; exact ⟨rfl, hW.trans (hb8.mono hW.size)⟩)
                      | (go_at_call 16; refine (HKK.out W hW).mono ?_; rintro e w8 ⟨rfl, rfl⟩; exact ⟨rfl, hW⟩)
                      | (obtain ⟨g0, g1⟩ := HCL.out W hW; go_simp; done)
                      | (obtain ⟨g0, g1⟩ := HCL.out W hW; go_simp; rfl)
                    go_big_quiet_on))
            | (go_big_quiet_want
               refine ⟨.string a, fun W hW => ?_, ?_⟩
               · have hm1 := fun n => hme n W hW
                 go_simp
                 refine (pathF a m t W).mono ?_
                 rintro e w8 ⟨rfl, hb8⟩
                 exact ⟨rfl, hW.trans (hb8.mono hW.size)⟩
               simp only [Act.put, List.setIfInBounds_toArray, List.set_cons_succ, List.set_cons_zero]
               go_big_quiet_on)
        refine wpQuiet_nil ?_
        intro w8 hb8
        go_wp2
        go_meet
        exact ⟨rfl, hb8⟩
      · obtain rfl := HNIL.out hko hk4
        clear hor hk4
        refine wp_region_below (by kernel_rfl) (by kernel_rfl) ?_
        repeat
          first
            | go_big_quiet_skip
            | (go_big_quiet_want
               go_big_quiet_op
               first
                 | go_big_quiet_on
                 | (refine ⟨_, fun _ _ => rfl, ?_⟩; go_big_quiet_on)
                 | (apply Exists.intro
                    refine ⟨fun W hW => ?_, ?_⟩
                    first
                      | (go_at_call 24; refine (HAW.out W (HEE.out W hW)).mono ?_; rintro e w8 ⟨rfl, hb8⟩; exact ⟨rfl, hW.trans (hb8.mono hW.size)⟩)
                      | (go_at_call 16; refine (HKK.out W hW).mono ?_; rintro e w8 ⟨rfl, rfl⟩; exact ⟨rfl, hW⟩)
                      | (obtain ⟨g0, g1⟩ := HCL.out W hW; go_simp; done)
                      | (obtain ⟨g0, g1⟩ := HCL.out W hW; go_simp; rfl)
                    go_big_quiet_on))
        refine wpQuiet_nil ?_
        intro w8 hb8
        go_wp2
        go_meet
        exact ⟨rfl, hb8⟩
  case rest =>
    obtain ⟨rfl, hbc⟩ := hcut
    have HKC := Lib.hid (HK7.out.below hbc HK7.out.lt)
    have HPC := Lib.hid (HP7.out.below hbc HP7.out.lt)
    have HQC := Lib.hid (HQ7.out.below hbc HQ7.out.lt)
    have HBC := Lib.hid (HB7.out.trans (hbc.mono HB7.out.size))
    clear hbc HK7 HP7 HQ7 HB7 HCL HEE HKK hta HX7 HV H4 HNIL
    have hz8 := (Below.refl wc.heap.size wc).alloc (Nat.le_refl _) (.cells #[.int .i64 0, .string ⟨#[]⟩, .int .i64 0, .int .i64 0, .int .i64 0, .slice none 0 0, .string ⟨#[]⟩] 72)
    have HKA := Lib.hid (HKC.out.below hz8 HKC.out.lt)
    have HPA := Lib.hid (HPC.out.below hz8 HPC.out.lt)
    have HQA := Lib.hid (HQC.out.below hz8 HQC.out.lt)
    have HBA := Lib.hid (HBC.out.trans (hz8.mono HBC.out.size))
    have HOA := Lib.hid (Blk.new wc 72 #[.int .i64 0, .string ⟨#[]⟩, .int .i64 0, .int .i64 0, .int .i64 0, .slice none 0 0, .string ⟨#[]⟩])
    have HTD := Lib.hid fun W => told_big ⟨2, ⟨#[]⟩, 0, 0, 0, [], noB⟩ (.iface 75 (.agg #[.string ⟨#[]⟩, .int .i64 0, .int .i64 0, .int .i64 0, .slice none 0 0])) W (.inr (.inl ⟨rfl, none, 0, rfl, (fun h => absurd h (by simp)), fun _ => rfl⟩)) (by decide)
    have htl : tell ⟨2, ⟨#[]⟩, 0, 0, 0, [], noB⟩ = ⟨2, ⟨#[]⟩, 0, 0, 0, [], noB⟩ := by simp [tell]
    unfold ToldPost at HTD
    rw [htl] at HTD
    unfold recC at HTD
    simp only at HTD
    clear hz8 HKC HPC HQC HBC htl
    go_upto_region 15 with fail
    generalize wc.alloc (.cells #[.int .i64 0, .string ⟨#[]⟩, .int .i64 0, .int .i64 0, .int .i64 0, .slice none 0 0, .string ⟨#[]⟩] 72) = wA at *
    go_cut [10, 11] (fun u v wc => Hid (Cut15 wA ⟨2, ⟨#[]⟩, 0, 0, 0, [], noB⟩ u v wc))
    case first =>
      refine wp_region_inv2 (by kernel_rfl) (I15 wA (.agg #[.string ⟨#[]⟩, .int .i64 0, .int .i64 0, .int .i64 0, .slice none 0 0]) ⟨2, ⟨#[]⟩, 0, 0, 0, [], noB⟩) ?_ ?_ ?_
      · refine ⟨false, false, false, false, false, false, false, false, false, false, _, _, _, _, _, _, _, _, rfl, put15_self _, ⟨Below.drew (Below.refl _ _), ?_, ?_, ?_, ?_, ?_, ?_, ?_, ?_, ?_, ?_, ?_, ?_, ?_, ?_, ?_⟩⟩ <;> exact fun h => by cases h
      · intro l a' W hI hr
        obtain ⟨b0, b1, b2, b3, b4, b5, b6, b7, b8, b9, x64, x65, x66, x67, x68, x69, x10, x11, rfl, rfl, hin⟩ := hI
        simp only [put15, Act.put, List.setIfInBounds_toArray, List.set_cons_succ, List.set_cons_zero]
        have t0 : b0 = true := (ready_nil hr 0 (by decide)).elim (fun h => h) (fun h => by simp [Region.binds] at h)
        subst t0
        have t1 : b1 = true := (ready_nil hr 1 (by decide)).elim (fun h => h) (fun h => by simp [Region.binds] at h)
        subst t1
        have t2 : b2 = true := (ready_nil hr 2 (by decide)).elim (fun h => h) (fun h => by simp [Region.binds] at h)
        subst t2
        have t3 : b3 = true := (ready_nil hr 3 (by decide)).elim (fun h => h) (fun h => by simp [Region.binds] at h)
        subst t3
        have t4 : b4 = true := (ready_nil hr 4 (by decide)).elim (fun h => h) (fun h => by simp [Region.binds] at h)
        subst t4
        have t5 : b5 = true := (ready_nil hr 5 (by decide)).elim (fun h => h) (fun h => by simp [Region.binds] at h)
        subst t5
        have t6 : b6 = true := (ready_nil hr 6 (by decide)).elim (fun h => h) (fun h => by simp [Region.binds] at h)
        subst t6
        have t7 : b7 = true := (ready_nil hr 7 (by decide)).elim (fun h => h) (fun h => by simp [Region.binds] at h)
        subst t7
        have t8 : b8 = true := (ready_nil hr 8 (by decide)).elim (fun h => h) (fun h => by simp [Region.binds] at h)
        subst t8
        have t9 : b9 = true := (ready_nil hr 9 (by decide)).elim (fun h => h) (fun h => by simp [Region.binds] at h)
        subst t9
        clear hr
        have hcut := hin.cut rfl rfl rfl rfl rfl rfl
        have HC := Lib.hid hcut
        clear hcut
        go_wp2
        go_meet
        exact HC
      · intro l a' W hI i hr
        obtain ⟨b0, b1, b2, b3, b4, b5, b6, b7, b8, b9, x64, x65, x66, x67, x68, x69, x10, x11, rfl, rfl, hin⟩ := hI
        obtain ⟨h1, h2, h3⟩ := ready_dep hr
        clear hr
        have hi : i < 10 := h1
        match i, hi, h2, h3 with
        | 0, _, h2, h3 =>
          simp [Region.binds] at h2 h3
          refine wpOp_step rfl (fun K hK => ?_)
          have hpb := HPA.out.below hin.bel HPA.out.lt
          have p0 : W.cell? ⟨w3.heap.size, 0, none⟩ = some (.string ⟨#[]⟩) := hpb.cell 0
          have p1 : W.cell? ⟨w3.heap.size, 1, none⟩ = some (.int .i64 0) := hpb.cell 1
          have p2 : W.cell? ⟨w3.heap.size, 2, none⟩ = some (.int .i64 0) := hpb.cell 2
          have p3 : W.cell? ⟨w3.heap.size, 3, none⟩ = some (.int .i64 0) := hpb.cell 3
          have p4 : W.cell? ⟨w3.heap.size, 4, none⟩ = some (.slice none 0 0) := hpb.cell 4
          clear hpb
          simp only [put15, Act.put, List.setIfInBounds_toArray, List.set_cons_succ, List.set_cons_zero]
          go_simp
          refine hK _ _ ⟨true, b1, b2, b3, b4, b5, b6, b7, b8, b9, (.agg #[.string ⟨#[]⟩, .int .i64 0, .int .i64 0, .int .i64 0, .slice none 0 0]), x65, x66, x67, x68, x69, x10, x11, rfl, ?_, hin.ld0⟩
          simp only [put15, Act.put, List.setIfInBounds_toArray, List.set_cons_succ, List.set_cons_zero]
        | 1, _, h2, h3 =>
          simp [Region.binds] at h2 h3
          refine wpOp_step rfl (fun K hK => ?_)
          obtain rfl := hin.h0 h3
          simp only [put15, Act.put, List.setIfInBounds_toArray, List.set_cons_succ, List.set_cons_zero]
          go_simp
          refine hK _ _ ⟨b0, true, b2, b3, b4, b5, b6, b7, b8, b9, _, (.iface 75 (.agg #[.string ⟨#[]⟩, .int .i64 0, .int .i64 0, .int .i64 0, .slice none 0 0])), x66, x67, x68, x69, x10, x11, rfl, ?_, hin.ld1⟩
          simp only [put15, Act.put, List.setIfInBounds_toArray, List.set_cons_succ, List.set_cons_zero]
        | 2, _, h2, h3 =>
          simp [Region.binds] at h2 h3
          refine wpOp_step rfl (fun K hK => ?_)
          obtain rfl := hin.h1 h3
          subst h2
          simp only [put15, Act.put, List.setIfInBounds_toArray, List.set_cons_succ, List.set_cons_zero]
          go_simp
          refine (HTD.out _).mono ?_
          rintro e wB ⟨E1, c1, rfl, hs1, hg1, hn1, hb1⟩
          go_simp
          refine hK _ _ ⟨b0, b1, true, b3, b4, b5, b6, b7, b8, b9, x64, _, _, x67, x68, x69, x10, x11, rfl, ?_, hin.call2 hs1 hg1 hn1 hb1⟩
          simp only [put15, Act.put, List.setIfInBounds_toArray, List.set_cons_succ, List.set_cons_zero]
          try rfl
        | 3, _, h2, h3 =>
          simp [Region.binds] at h2 h3
          refine wpOp_step rfl (fun K hK => ?_)
          have hpb := HQA.out.below hin.bel HQA.out.lt
          have p0 : W.cell? ⟨w4.heap.size, 0, none⟩ = some (.string ⟨#[]⟩) := hpb.cell 0
          have p1 : W.cell? ⟨w4.heap.size, 1, none⟩ = some (.int .i64 0) := hpb.cell 1
          have p2 : W.cell? ⟨w4.heap.size, 2, none⟩ = some (.int .i64 0) := hpb.cell 2
          have p3 : W.cell? ⟨w4.heap.size, 3, none⟩ = some (.int .i64 0) := hpb.cell 3
          have p4 : W.cell? ⟨w4.heap.size, 4, none⟩ = some (.slice none 0 0) := hpb.cell 4
          clear hpb
          simp only [put15, Act.put, List.setIfInBounds_toArray, List.set_cons_succ, List.set_cons_zero]
          go_simp
          refine hK _ _ ⟨b0, b1, b2, true, b4, b5, b6, b7, b8, b9, x64, x65, x66, (.agg #[.string ⟨#[]⟩, .int .i64 0, .int .i64 0, .int .i64 0, .slice none 0 0]), x68, x69, x10, x11, rfl, ?_, hin.ld3⟩
          simp only [put15, Act.put, List.setIfInBounds_toArray, List.set_cons_succ, List.set_cons_zero]
        | 4, _, h2, h3 =>
          simp [Region.binds] at h2 h3
          refine wpOp_step rfl (fun K hK => ?_)
          obtain rfl := hin.h3 h3
          simp only [put15, Act.put, List.setIfInBounds_toArray, List.set_cons_succ, List.set_cons_zero]
          go_simp
          refine hK _ _ ⟨b0, b1, b2, b3, true, b5, b6, b7, b8, b9, x64, x65, x66, _, (.iface 75 (.agg #[.string ⟨#[]⟩, .int .i64 0, .int .i64 0, .int .i64 0, .slice none 0 0])), x69, x10, x11, rfl, ?_, hin.ld4⟩
          simp only [put15, Act.put, List.setIfInBounds_toArray, List.set_cons_succ, List.set_cons_zero]
        | 5, _, h2, h3 =>
          simp [Region.binds] at h2 h3
          refine wpOp_step rfl (fun K hK => ?_)
          obtain rfl := hin.h4 h3.1
          subst h2
          simp only [put15, Act.put, List.setIfInBounds_toArray, List.set_cons_succ, List.set_cons_zero]
          go_simp
          refine (HTD.out _).mono ?_
          rintro e wB ⟨E1, c1, rfl, hs1, hg1, hn1, hb1⟩
          go_simp
          refine hK _ _ ⟨b0, b1, b2, b3, b4, true, b6, b7, b8, b9, x64, x65, x66, x67, _, _, x10, x11, rfl, ?_, hin.call5 hs1 hg1 hn1 hb1⟩
          simp only [put15, Act.put, List.setIfInBounds_toArray, List.set_cons_succ, List.set_cons_zero]
          try rfl
        | 6, _, h2, h3 =>
          simp [Region.binds] at h2 h3
          refine wpOp_step rfl (fun K hK => ?_)
          subst h2
          simp only [put15, Act.put, List.setIfInBounds_toArray, List.set_cons_succ, List.set_cons_zero]
          go_simp
          refine hK _ _ ⟨b0, b1, b2, b3, b4, b5, true, b7, b8, b9, x64, x65, x66, x67, x68, x69, _, x11, rfl, ?_, hin.al6 _ rfl⟩
          simp only [put15, Act.put, List.setIfInBounds_toArray, List.set_cons_succ, List.set_cons_zero]
        | 7, _, h2, h3 =>
          simp [Region.binds] at h2 h3
          refine wpOp_step rfl (fun K hK => ?_)
          subst h2
          simp only [put15, Act.put, List.setIfInBounds_toArray, List.set_cons_succ, List.set_cons_zero]
          go_simp
          refine hK _ _ ⟨b0, b1, b2, b3, b4, b5, b6, true, b8, b9, x64, x65, x66, x67, x68, x69, x10, _, rfl, ?_, hin.al7 _ rfl⟩
          simp only [put15, Act.put, List.setIfInBounds_toArray, List.set_cons_succ, List.set_cons_zero]
        | 8, _, h2, h3 =>
          simp [Region.binds] at h2 h3
          have ep : b6 = true := by simp only [h3]
          have et : b2 = true := by simp only [h3]
          clear h3
          subst ep et
          obtain ⟨E1, c1, rfl, hs1, hn1⟩ := hin.h2 rfl
          obtain ⟨g1, cs1, rfl, hg1, hb1, hc1, hv1⟩ := hin.h6 rfl
          obtain ⟨z0, z1, z2, z3, z4, z5, z6, rfl⟩ := arr7x cs1 hc1
          have hin := hin.st8
          have q0 : W.cell? ⟨g1, 0, none⟩ = some z0 := hb1.cell 0
          have q1 : W.cell? ⟨g1, 1, none⟩ = some z1 := hb1.cell 1
          have q2 : W.cell? ⟨g1, 2, none⟩ = some z2 := hb1.cell 2
          have q3 : W.cell? ⟨g1, 3, none⟩ = some z3 := hb1.cell 3
          have q4 : W.cell? ⟨g1, 4, none⟩ = some z4 := hb1.cell 4
          have q5 : W.cell? ⟨g1, 5, none⟩ = some z5 := hb1.cell 5
          have q6 : W.cell? ⟨g1, 6, none⟩ = some z6 := hb1.cell 6
          have f0 := hb1.frozen 0
          have f1 := hb1.frozen 1
          have f2 := hb1.frozen 2
          have f3 := hb1.frozen 3
          have f4 := hb1.frozen 4
          have f5 := hb1.frozen 5
          have f6 := hb1.frozen 6
          unfold recC
          refine wpOp_step rfl (fun K hK => ?_)
          simp only [put15, Act.put, List.setIfInBounds_toArray, List.set_cons_succ, List.set_cons_zero]
          go_simp
          refine hK _ _ ⟨_, _, _, _, _, _, _, _, _, _, _, _, _, _, _, _, _, _, rfl, ?_, hin⟩
          simp only [put15, Act.put, List.setIfInBounds_toArray, List.set_cons_succ, List.set_cons_zero]
          try rfl
        | 9, _, h2, h3 =>
          simp [Region.binds] at h2 h3
          have ep : b7 = true := by simp only [h3]
          have et : b5 = true := by simp only [h3]
          clear h3
          subst ep et
          obtain ⟨E1, c1, rfl, hs1, hn1⟩ := hin.h5 rfl
          obtain ⟨g1, cs1, rfl, hg1, hb1, hc1, hv1⟩ := hin.h7 rfl
          obtain ⟨z0, z1, z2, z3, z4, z5, z6, rfl⟩ := arr7x cs1 hc1
          have hin := hin.st9
          have q0 : W.cell? ⟨g1, 0, none⟩ = some z0 := hb1.cell 0
          have q1 : W.cell? ⟨g1, 1, none⟩ = some z1 := hb1.cell 1
          have q2 : W.cell? ⟨g1, 2, none⟩ = some z2 := hb1.cell 2
          have q3 : W.cell? ⟨g1, 3, none⟩ = some z3 := hb1.cell 3
          have q4 : W.cell? ⟨g1, 4, none⟩ = some z4 := hb1.cell 4
          have q5 : W.cell? ⟨g1, 5, none⟩ = some z5 := hb1.cell 5
          have q6 : W.cell? ⟨g1, 6, none⟩ = some z6 := hb1.cell 6
          have f0 := hb1.frozen 0
          have f1 := hb1.frozen 1
          have f2 := hb1.frozen 2
          have f3 := hb1.frozen 3
          have f4 := hb1.frozen 4
          have f5 := hb1.frozen 5
          have f6 := hb1.frozen 6
          unfold recC
          refine wpOp_step rfl (fun K hK => ?_)
          simp only [put15, Act.put, List.setIfInBounds_toArray, List.set_cons_succ, List.set_cons_zero]
          go_simp
          refine hK _ _ ⟨_, _, _, _, _, _, _, _, _, _, _, _, _, _, _, _, _, _, rfl, ?_, hin⟩
          simp only [put15, Act.put, List.setIfInBounds_toArray, List.set_cons_succ, List.set_cons_zero]
          try rfl
    case rest =>
      obtain ⟨hbC, ga, gb, Ea, ca, Eb, cb, rfl, rfl, hne, hga, hgb, hba, hbb, hsa, hsb, hna, hnb⟩ := hcut.out
      have hba' : Blk wc ga 72 #[.int .i64 2, .string ⟨#[]⟩, .int .i64 0, .int .i64 0, .int .i64 0, .slice Ea 0 ca, .string noB] := hba
      have hbb' : Blk wc gb 72 #[.int .i64 2, .string ⟨#[]⟩, .int .i64 0, .int .i64 0, .int .i64 0, .slice Eb 0 cb, .string noB] := hbb
      have p0 : wc.cell? ⟨ga, 0, none⟩ = some (.int .i64 2) := hba'.cell 0
      have q0 := hba'.frozen 0
      have hne' : ¬ gb = ga := fun e => hne e.symm
      have p1 : (wc.setCell ⟨ga, 0, none⟩ (.int .i64 0)).cell? ⟨gb, 0, none⟩ = some (.int .i64 2) := (hbb'.far (p := ⟨ga, 0, none⟩) hne' _).cell 0
      have q1 := (hbb'.far (p := ⟨ga, 0, none⟩) hne' (.int .i64 0)).frozen 0
      have hbS : Below wA.heap.size wA ((wc.setCell ⟨ga, 0, none⟩ (.int .i64 0)).setCell ⟨gb, 0, none⟩ (.int .i64 0)) := (hbC.setCell (p := ⟨ga, 0, none⟩) hga _).setCell (p := ⟨gb, 0, none⟩) hgb _
      have HA19 := Lib.hid (show Blk ((wc.setCell ⟨ga, 0, none⟩ (.int .i64 0)).setCell ⟨gb, 0, none⟩ (.int .i64 0)) ga 72 #[.int .i64 0, .string ⟨#[]⟩, .int .i64 0, .int .i64 0, .int .i64 0, .slice Ea 0 ca, .string noB] from (hba'.set_ 0 (.int .i64 0)).far (p := ⟨gb, 0, none⟩) hne _)
      have HB19 := Lib.hid (show Blk ((wc.setCell ⟨ga, 0, none⟩ (.int .i64 0)).setCell ⟨gb, 0, none⟩ (.int .i64 0)) gb 72 #[.int .i64 0, .string ⟨#[]⟩, .int .i64 0, .int .i64 0, .int .i64 0, .slice Eb 0 cb, .string noB] from (hbb'.far (p := ⟨ga, 0, none⟩) hne' _).set_ 0 (.int .i64 0))
      have HSA19 := Lib.hid fun (W : World) => (show StrsA W W.heap.size Ea [] from fun h => absurd h (by simp))
      have HSB19 := Lib.hid fun (W : World) => (show StrsA W W.heap.size Eb [] from fun h => absurd h (by simp))
      have HK19 := Lib.hid (HKA.out.below hbS HKA.out.lt)
      have HO19 := Lib.hid (recsA_one (x := ⟨0, ⟨#[]⟩, 0, 0, 0, [], noB⟩) (E := none) (c := 0) (HOA.out.below hbS HOA.out.lt) (fun h => absurd h (by simp)))
      have HW19 := Lib.hid (HBA.out.trans (hbS.mono HBA.out.size))
      have HC19 := Lib.hid (show ([] : List ByteArray).length ≤ 9223372036854775807 by decide)
      clear hba hbb hba' hbb' hsa hsb hna hnb hcut HTD hne hne' hga hgb hbC hbS
      go_upto_region 19 with fail
      generalize ((wc.setCell ⟨ga, 0, none⟩ (.int .i64 0)).setCell ⟨gb, 0, none⟩ (.int .i64 0)) = wc at *
      clear p0 p1 q0 q1
      have HS0 := Lib.hid (ks19 HA19.out HB19.out HK19.out (Below.refl wc.heap.size wc))
      go_region_held3 (fun W => W.cell? ⟨ga, 0, none⟩ = some (.int .i64 0) ∧ W.cell? ⟨ga, 1, none⟩ = some (.string ⟨#[]⟩) ∧ W.cell? ⟨ga, 2, none⟩ = some (.int .i64 0) ∧ W.cell? ⟨ga, 3, none⟩ = some (.int .i64 0) ∧ W.cell? ⟨ga, 4, none⟩ = some (.int .i64 0) ∧ W.cell? ⟨ga, 5, none⟩ = some (.slice Ea 0 ca) ∧ W.cell? ⟨ga, 6, none⟩ = some (.string noB) ∧ W.cell? ⟨gb, 0, none⟩ = some (.int .i64 0) ∧ W.cell? ⟨gb, 1, none⟩ = some (.string ⟨#[]⟩) ∧ W.cell? ⟨gb, 2, none⟩ = some (.int .i64 0) ∧ W.cell? ⟨gb, 3, none⟩ = some (.int .i64 0) ∧ W.cell? ⟨gb, 4, none⟩ = some (.int .i64 0) ∧ W.cell? ⟨gb, 5, none⟩ = some (.slice Eb 0 cb) ∧ W.cell? ⟨gb, 6, none⟩ = some (.string noB) ∧ W.cell? ⟨w.heap.size, 6, none⟩ = some (.string tg) ∧ Below wc.heap.size wc W)
        (first | exact ks19 HA19.out HB19.out HK19.out (by repeat (first | exact bel19 (by assumption) | exact Below.refl _ _ | assumption | apply balloc | apply bdrew)))
        (first
          | (go_at_call 25; (fail_if_success (have := hk8)); ((with_reducible refine (same_zeroD (HO19.out.below (by repeat (first | exact bel19 (by assumption) | exact Below.refl _ _ | assumption | apply balloc | apply bdrew)))).mono ?_); rintro e wD ⟨rfl, hbD⟩; have hk8 := ks19 HA19.out HB19.out HK19.out (Below.trans (by repeat (first | exact bel19 (by assumption) | exact Below.refl _ _ | assumption | apply balloc | apply bdrew)) (hbD.mono (Below.size (by repeat (first | exact bel19 (by assumption) | exact Below.refl _ _ | assumption | apply balloc | apply bdrew)))))))
          | (go_at_call 25; ((with_reducible refine (same_zero (HO19.out.below (by repeat (first | exact bel19 (by assumption) | exact Below.refl _ _ | assumption | apply balloc | apply bdrew)))).mono ?_); rintro e wE ⟨rfl, hbE⟩; have hk9 := ks19 HA19.out HB19.out HK19.out (Below.trans (by repeat (first | exact bel19 (by assumption) | exact Below.refl _ _ | assumption | apply balloc | apply bdrew)) (hbE.mono (Below.size (by repeat (first | exact bel19 (by assumption) | exact Below.refl _ _ | assumption | apply balloc | apply bdrew)))))))
          | (go_at_call 45; (with_reducible refine (HTG.out _).mono ?_); rintro e wF ⟨rfl, hbF⟩; have hk10 := ks19 HA19.out HB19.out HK19.out (Below.trans (by repeat (first | exact bel19 (by assumption) | exact Below.refl _ _ | assumption | apply balloc | apply bdrew)) (hbF.mono (Below.size (by repeat (first | exact bel19 (by assumption) | exact Below.refl _ _ | assumption | apply balloc | apply bdrew))))))
          | (go_at_call 46; (with_reducible refine (HRT.out _).mono ?_); rintro e wG ⟨rfl, rfl⟩))
      all_goals
        have HF := Lib.hid (HW19.out.trans ((bel19 hk10).mono HW19.out.size))
        clear hk8 hk9 hk10 hbD hbE hbF HS0
        go_wp2
        go_ret
        exact ⟨rfl, HF.out⟩
end Go.Proofs.YtaoejgnfoecpfaaDoor
