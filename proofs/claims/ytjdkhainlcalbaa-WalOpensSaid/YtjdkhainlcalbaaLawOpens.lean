/- The law WalOpens: the walk. -/
import Derived.Test.YtjdkhainlcalbaaWn
namespace Go.Proofs.Ytjdkhainlcalbaa
open Go.RowKit Go.Maps

/-- behind k crashes -/
def OpensI (w : World) (b lb : Nat) (recs : List ByteArray) (vw : Value) (wr : World) : Prop := ∃ D L v tn c n files i o t, WlUp w wr b D L lb v recs tn ∧ LogSn D (frames recs ++ c) n files i o t ∧ TailOk c ∧ (frames recs).size ≤ n ∧ RowOff w wr b L lb v vw recs ∧ files.length ≤ 22
def lastB : ByteArray := ⟨#[108, 97, 115, 116]⟩

set_option maxHeartbeats 6400000 in
set_option maxRecDepth 100000 in
theorem opens_all (l : List ByteArray) (va : Value) (torn : ByteArray) (ars : List Int) (vb : Value) (ks : List Int) (vk : Value) (w : World) (hv : ReadsS w va l) (hl : l.length ≤ 9223372036854775807 ∧ ∀ s ∈ l, s.size ≤ 9223372036854775807) (htz : torn.size ≤ 9223372036854775807) (hvb : RowInt w vb ars) (hab : KeepsOk ars) (hvk : RowInt w vk ks) (hkk : KeepsOk ks) :
    Calls Try.prog 13 #[va, .string torn, vb, vk] w fun e w' => e = .returned (.bool true) ∧ Below w.heap.size w w' := by
  have HS := Lib.hid (startUp w)
  have HA := Lib.hid fun w' => awake15_any w'
  obtain ⟨a, c, rfl, hcell⟩ := hv
  obtain ⟨hl1, hl2⟩ := hl
  have HV := Lib.hid hcell
  have HZ := Lib.hid hl2
  have HVB := Lib.hid hvb
  have HAB := Lib.hid hab.2
  have hab1 := hab.1
  have HVK := Lib.hid hvk
  have HKK := Lib.hid hkk
  obtain ⟨ab, an, ac, rfl⟩ := hvb.shape
  have han : an = ars.length := by
    rcases hvb with ⟨⟨x, y, h⟩, h2⟩ | ⟨x, y, z, h, _⟩
    · injection h with _ h _; rw [h2]; exact h
    · injection h with _ h _
  subst han
  clear hcell hl2 hvb hab hvk hkk
  go_enter Try.func13, Try.ntmps13
  go_wp2_with fail
  refine HS.out.mono ?_
  rintro e w1 ⟨b, L, lb, v, rfl, hu⟩
  have hrow := hu.withRow ((Below.refl _ w1).alloc (Nat.le_refl _) (.cells #[] 9)) (want2 := []) (row_nil w1 9 w1.heap.size (Nat.le_refl _))
  have HI := Lib.hid (show PlaysI w b lb 0 [] (.slice (some ⟨w1.heap.size, 0, none⟩) 0 0) (w1.alloc (.cells #[] 9)) from ⟨_, L, v, _, _, _, hrow, mkL_st, Nat.le_refl _, fun r hr => by simp at hr, Nat.le_refl _, Nat.le_refl _⟩)
  clear hu HS hrow
  go_wp2
  go_loopw [11, 12] (fun sw i wr => ∃ k recs vw, k ≤ 20 ∧ k ≤ l.length ∧ i = .int .i64 (k : Nat) ∧ vw = sw ∧ PlaysI w b lb k recs vw wr) (fun _ i _ => 20 - (intOf i).toNat)
  case atStart => exact ⟨0, [], _, by omega, by omega, rfl, rfl, HI.out⟩
  case round =>
    clear HI
    obtain ⟨k, recs, vw, hk, hkl, rfl, rfl, hI⟩ := hrel
    obtain ⟨D, L, v, files, i, o, hu, hst, hr1, hr2, hr3, hr4⟩ := hI
    have HU := Lib.hid hu
    have HST := Lib.hid hst
    have HR2 := Lib.hid hr2
    have HR3 := Lib.hid hr3
    clear hu hst hr2 hr3
    by_cases hlt : k < l.length ∧ k < 20
    · obtain ⟨h1, h2⟩ := hlt
      obtain ⟨bb, oo, rfl, hbb, hcc⟩ := HV.out k h1
      have hcr : wr.cell? ⟨bb, oo + k, none⟩ = some (.string l[k]) := (HU.out.up.bel.cell (p := ⟨bb, oo + k, none⟩) hbb).trans hcc
      have hrz := HZ.out l[k] (List.getElem_mem _)
      clear hcc
      generalize l[k] = r at hcr hrz
      go_upto_if 49 with (fail)
      go_cut [13] (fun s9 wc => s9 = .string (cutB 300 r) ∧ wr = wc)
      case first =>
        by_cases h : 300 < r.size
        · have E := Lib.hid (show cutB 300 r = r.extract 0 300 from if_pos h)
          go_wp2_with (fail)
          go_meet
          exact ⟨by rw [E.out], rfl⟩
        · have E := Lib.hid (show cutB 300 r = r from if_neg h)
          go_wp2_with (fail)
          go_meet
          exact ⟨by rw [E.out], rfl⟩
      case rest =>
        obtain ⟨rfl, rfl⟩ := hcut
        have hcz := cutB_le 300 r
        clear hrz
        generalize cutB 300 r = s at *
        have HC := Lib.hid (addRow s HU.out HST.out (by omega) (by have := HR3.out; omega) (by omega) (by omega))
        have hfz := frame_size s
        have HSN := Lib.hid (frames_snoc recs s)
        have HZ4 := Lib.hid (show (frames (recs ++ [s])).size ≤ 308 * (k + 1) by rw [HSN.out, ByteArray.size_append, hfz]; have := HR3.out; omega)
        have HAL := Lib.hid (show ∀ r ∈ recs ++ [s], r.size ≤ 300 from fun q hq => by
          rcases List.mem_append.1 hq with hq | hq
          · exact HR2.out q hq
          · rw [List.mem_singleton.1 hq]; exact hcz)
        go_wp2_with (fail)
        refine HC.out.mono ?_
        rintro e w2 ⟨rfl, D2, L2, v2, f2, hu2, hst2, hf2⟩
        have HU2 := Lib.hid hu2
        rw [← HSN.out] at hst2
        have HST2 := Lib.hid hst2
        have hrow2 := hu2.row
        clear hu2 hst2 HC
        go_wp2_with (first
          | (at_builtin; refine wpList_app1 rfl _ _ 25 rfl w.heap.size 9 Try.underlying25 infoStr rfl (by decide) _ _ _ rfl hrow2 _ rfl rfl (oneCell_string _) ?_ ?_ HU2.out.up.bel.size ?_; omega; omega; intro g6 cap6 w6 hst6 hgr6 _ hloc6))
        have HI6 := Lib.hid (show PlaysI w b lb (k + 1) (recs ++ [s]) (.slice (some ⟨g6, 0, none⟩) (recs.length + 1) cap6) w6 from ⟨D2, L2, v2, f2, i, o, HU2.out.grown hgr6 (by rw [List.map_append, List.length_append]; exact hst6) (fun q hq => by
            obtain rfl := Option.some.inj hq
            exact hloc6.imp id (fun e => by show w2.heap.size ≤ g6; omega)), HST2.out, by simp; omega, HAL.out, HZ4.out, by omega⟩)
        clear hst6 hgr6 hloc6
        go_wp2
        go_roundw
        case rel => exact ⟨k + 1, recs ++ [s], _, by omega, by omega, by go_num, rfl, HI6.out⟩
        case measure => simp [intOf]; omega
    · have HRZ := Lib.hid (show (frames recs).size ≤ 6160 by have := HR3.out; omega)
      have hrl : recs.length ≤ 20 := by omega
      have hfl : files.length ≤ 22 := by omega
      rcases (by omega : ¬ k < l.length ∨ (k < l.length ∧ ¬ k < 20)) with h1 | ⟨h1, h2⟩
      all_goals
        clear hlt hr1 hr4 HR3
        go_upto_if 62 with (fail)
        go_cut [1] (fun s9 wc => s9 = .string (cutB 300 torn) ∧ wr = wc)
        case first =>
          by_cases h : 300 < torn.size
          · have E := Lib.hid (show cutB 300 torn = torn.extract 0 300 from if_pos h)
            go_wp2_with (fail)
            go_meet
            exact ⟨by rw [E.out], rfl⟩
          · have E := Lib.hid (show cutB 300 torn = torn from if_neg h)
            go_wp2_with (fail)
            go_meet
            exact ⟨by rw [E.out], rfl⟩
        case rest =>
          obtain ⟨rfl, rfl⟩ := hcut
          have hcz := cutB_le 300 torn
          clear htz
          generalize cutB 300 torn = tn at *
          have HF := Lib.hid fun w => frame_any tn w (by omega)
          have hfz := frame_size tn
          have HTL := Lib.hid (show TailOk ((frame tn).extract 0 ((frame tn).size - 1)) from ⟨tn, (frame tn).size - 1, hcz, by omega, rfl⟩)
          generalize frame tn = fr at *
          have q72 : ((fr.size : Int) != (tn.size : Int) + 8) = false := by simp; omega
          have hfz1 : 1 ≤ fr.size := by omega
          have hfz2 : fr.size ≤ 308 := by omega
          clear hfz
          go_wp2_with fail
          refine (HF.out _).mono ?_
          rintro e w2 ⟨rfl, hb2⟩
          have HU2 := Lib.hid (HU.out.bel hb2)
          clear hb2 HU
          have hxz : (fr.extract 0 (fr.size - 1)).size ≤ 308 := by rw [ByteArray.size_extract]; omega
          have HXZ := Lib.hid hxz
          clear hxz
          obtain ⟨D3, f3, ha3, hs3, hf3⟩ := HST.out.sn.append (fr.extract 0 (fr.size - 1)) (by have := HRZ.out; have := HXZ.out; omega)
          have HC := Lib.hid (appendPost logName (fr.extract 0 (fr.size - 1)) HU2.out.up (by decide) (by have := HXZ.out; omega) (HST.out.sn.small'.mono (by omega)))
          rw [ha3] at HC
          have HS3 := Lib.hid hs3
          clear ha3 hs3
          go_wp2_with fail
          refine HC.out.mono ?_
          rintro e w3 ⟨rfl, L3, v3, hb3, ht3, hf3'⟩
          have HI3 := Lib.hid (show OpensI w b lb recs vw w3 from ⟨D3, L3, v3, _, _, _, f3, i, o, none, HU2.out.up.post1 hb3 ht3 hf3', HS3.out, HTL.out, Nat.le_refl _, (RowOff.mk HU2.out.row HU2.out.off).post ht3 hf3', by omega⟩)
          clear hb3 ht3 hf3' HC HU2 HS3 HTL HST
          go_wp2
          go_loopw [15] (fun i wr => ∃ k, k ≤ 10 ∧ k ≤ ars.length ∧ i = .int .i64 (k : Nat) ∧ OpensI w b lb recs vw wr) (fun i _ => 10 - (intOf i).toNat)
          case atStart => exact ⟨0, by omega, by omega, rfl, HI3.out⟩
          case round =>
            clear HI3
            obtain ⟨k, hk, hkl, rfl, hI⟩ := hrel
            obtain ⟨D, L, v, tn4, c4, n4, files, i, o, t, hu, hsn, htl, hnn, hrw, hfl⟩ := hI
            have HU := Lib.hid hu
            have HSN := Lib.hid hsn
            have HTL := Lib.hid htl
            have HNN := Lib.hid hnn
            have HRW := Lib.hid hrw
            clear hu hsn htl hnn hrw
            by_cases hlt : k < ars.length ∧ k < 10
            · obtain ⟨h1, h2⟩ := hlt
              have hca : ∃ ba oa, ab = some ⟨ba, oa, none⟩ ∧ wr.cell? ⟨ba, oa + k, none⟩ = some (.int .i64 ars[k]) := by
                rcases HVB.out.below HU.out.bel with ⟨_, h⟩ | ⟨ba, oa, ca, h, hc⟩
                · rw [h] at h1; simp at h1
                · injection h with h _ _
                  exact ⟨ba, oa, h, hc k h1⟩
              obtain ⟨ba, oa, rfl, hca⟩ := hca
              have hra := HAB.out ars[k] (List.getElem_mem _)
              generalize ars[k] = x at *
              have HC := Lib.hid (armPost x HU.out hra.2)
              go_wp2_with fail
              refine HC.out.mono ?_
              rintro e w5 ⟨rfl, L5, v5, hb5, ht5, hf5⟩
              have HU5 := Lib.hid (HU.out.post1 hb5 ht5 hf5)
              have HW5 := Lib.hid (HRW.out.post ht5 hf5)
              clear hb5 ht5 hf5 HC HU HRW
              have HC := Lib.hid (openAt (D := D.armed x) (rs := recs) HU5.out HSN.out.read.1 HTL.out HR2.out (by omega))
              go_wp2_with fail
              refine HC.out.mono ?_
              rintro e w6 ⟨lb6, v6, rfl, hu6, hb6, hf6⟩
              have HC := Lib.hid (same15_any lb6 b v6 _ recs recs _ w6 hu6.both.lg (HW5.out.open hb6 hf6).rd (by omega) (by omega))
              rw [decide_eq_true (rfl : recs = recs)] at HC
              have HU6 := Lib.hid (HU5.out.up hb6)
              have HW6 := Lib.hid (HW5.out.bel hb6)
              clear hu6 hb6 hf6 HU5 HW5
              go_wp2_with fail
              refine HC.out.mono ?_
              rintro e w7 ⟨rfl, hb7⟩
              have HU7 := Lib.hid (HU6.out.up hb7)
              have HW7 := Lib.hid (HW6.out.bel hb7)
              clear hb7 HC HU6 HW6
              have HC := Lib.hid (armPost (-1) HU7.out (by decide))
              go_wp2_with fail
              refine HC.out.mono ?_
              rintro e w8 ⟨rfl, L8, v8, hb8, ht8, hf8⟩
              have HU8 := Lib.hid (HU7.out.post1 hb8 ht8 hf8)
              have HW8 := Lib.hid (HW7.out.post ht8 hf8)
              clear hb8 ht8 hf8 HC HU7 HW7
              have HC := Lib.hid (crashPost ks vk HU8.out (HVK.out.below HU8.out.bel) HKK.out (small_armed (small_armed (HSN.out.small.mono (by omega)) x) (-1)))
              go_wp2_with fail
              refine HC.out.mono ?_
              rintro e w9 ⟨rfl, L9, v9, hb9, ht9, hf9⟩
              obtain ⟨c9, f9, i9, o9, t9, hc9, hl9, hz9⟩ := crash_keep HSN.out HTL.out HNN.out ks
              rw [← armed_crash D x ks] at hl9
              have HI9 := Lib.hid (show OpensI w b lb recs vw w9 from ⟨_, L9, v9, _, c9, _, f9, i9, o9, t9, HU8.out.post1 hb9 ht9 hf9, hl9.sn, hc9, by rw [ByteArray.size_append]; omega, HW8.out.post ht9 hf9, by omega⟩)
              clear hb9 ht9 hf9 HC HU8 HW8 hc9 hl9
              go_wp2
              go_roundw
              case rel => exact ⟨k + 1, by omega, by omega, by go_num, HI9.out⟩
              case measure => simp [intOf]; omega
            · rcases (by omega : ¬ k < ars.length ∨ (k < ars.length ∧ ¬ k < 10)) with h1 | ⟨h1, h2⟩
              all_goals
                clear hlt
                obtain ⟨vwa, vwc, rfl⟩ := HRW.out.rd.len
                have HC := Lib.hid (openAt (rs := recs) HU.out HSN.out.read.1 HTL.out HR2.out (by omega))
                go_wp2_with fail
                refine HC.out.mono ?_
                rintro e w4 ⟨lb4, v4, rfl, hu4, hb4, hf4⟩
                have HU4 := Lib.hid hu4
                have HW4 := Lib.hid (HRW.out.open hb4 hf4)
                clear hu4 hb4 hf4 HC HU HRW
                have HC := Lib.hid (same15_any lb4 b v4 _ recs recs _ w4 HU4.out.both.lg HW4.out.rd (by omega) (by omega))
                rw [decide_eq_true (rfl : recs = recs)] at HC
                go_wp2_with fail
                refine HC.out.mono ?_
                rintro e w5 ⟨rfl, hb5⟩
                have HU5 := Lib.hid (HU4.out.up hb5)
                have HW5 := Lib.hid (HW4.out.bel hb5)
                clear hb5 HC HU4 HW4
                go_wp2_with fail
                refine (othersSn HU5.out HSN.out).mono ?_
                rintro e w6 ⟨rfl, hb6⟩
                have HU6 := Lib.hid (HU5.out.up hb6)
                have HW6 := Lib.hid (HW5.out.bel hb6)
                clear hb6 HU5 HW5
                have HC := Lib.hid (addSn lastB HU6.out HSN.out HTL.out HNN.out (by decide) (by have := HRZ.out; omega) HR2.out (by omega) (by omega))
                go_wp2_with fail
                refine HC.out.mono ?_
                rintro e w7 ⟨D7, f7, i7, o7, t7, rfl, ⟨L7, v7, hb7, ht7, hf7⟩, hl7⟩
                have HU7 := Lib.hid (HU6.out.post1 hb7 ht7 hf7)
                have HW7 := Lib.hid (HW6.out.post ht7 hf7)
                have HL7 := Lib.hid hl7
                clear hb7 ht7 hf7 hl7 HC HU6 HW6 HSN HTL HNN
                go_wp2_with fail
                refine (torn_any lb4 b v7 _ false w7 HU7.out.both.lg).mono ?_
                rintro e w8 ⟨rfl, rfl⟩
                have hrs : ∀ r ∈ recs ++ [lastB], r.size ≤ 300 := fun q hq => by
                  rcases List.mem_append.1 hq with hq | hq
                  · exact HR2.out q hq
                  · rw [List.mem_singleton.1 hq]; decide
                have HRS := Lib.hid hrs
                have hz7 : (frames (recs ++ [lastB])).size ≤ 6200 := by
                  rw [frames_snoc, ByteArray.size_append, frame_size]; have := HRZ.out; show _ + (4 + 8) ≤ _; omega
                have H1 := readUp logName HU7.out.dk (by decide)
                rw [HL7.out.read.1] at H1
                have HC := Lib.hid H1
                have H2 := fun w => parse_any (frames (recs ++ [lastB])) w (by omega)
                rw [parse_frames (recs ++ [lastB]) (fun r hr => by have := HRS.out r hr; omega) (by simp; omega)] at H2
                have HP := Lib.hid H2
                have HO := Lib.hid fun W (h : WlUp w W b D7 L7 lb4 v7 (recs ++ [lastB]) false) => openAt (rs := recs ++ [lastB]) (c := ⟨#[]⟩) h (by rw [app_nil]; exact HL7.out.read.1) tail_nil HRS.out (by simp; omega)
                clear hrs H1 H2
                generalize hfr : frames (recs ++ [lastB]) = fr at *
                have HFR := Lib.hid hfr
                have HZ7 := Lib.hid hz7
                clear hfr hz7
                go_wp2_with fail
                refine HC.out.mono ?_
                rintro e w9 ⟨rfl, rfl⟩
                go_wp2_with fail
                refine (HP.out _).mono ?_
                rintro e w10 ⟨pv, rfl, ho10, hb10⟩
                obtain ⟨pa, pc, rfl⟩ : ∃ pa pc, pv = .slice pa (recs.length + 1) pc := by
                  rcases ho10.2 with ⟨q1, q2⟩ | ⟨g, cap, _, hv, _⟩
                  · exact absurd q2 (by simp)
                  · exact ⟨some ⟨g, 0, none⟩, cap, by rw [hv]; simp⟩
                have HU10 := Lib.hid (HU7.out.up hb10)
                have HW10 := Lib.hid (HW7.out.bel hb10)
                clear ho10 hb10 HC HU7 HW7
                have HC := Lib.hid (HO.out _ HU10.out)
                go_wp2_with fail
                refine HC.out.mono ?_
                rintro e w11 ⟨lb11, v11, rfl, hu11, hb11, hf11⟩
                have HU11 := Lib.hid hu11
                have HW11 := Lib.hid (HW10.out.open hb11 hf11)
                clear hu11 hb11 hf11 HC HU10 HW10
                go_wp2_with fail
                refine (HA.out _).mono ?_
                rintro e w12 ⟨rfl, hb12⟩
                have HU12 := Lib.hid (HU11.out.up hb12)
                have HW12 := Lib.hid (HW11.out.bel hb12)
                clear hb12 HU11 HW11
                go_wp2_with fail
                have HT := torn_any lb11 b v11 _ _ w12 HU12.out.both.lg
                rw [show decide (0 < (⟨#[]⟩ : ByteArray).size) = false from rfl] at HT
                refine HT.mono ?_
                rintro e w13 ⟨rfl, rfl⟩
                have hrow12 := HW12.out.row
                clear HT
                go_wp2_with (first
                  | (at_builtin; refine wpList_app1g rfl _ _ 25 rfl w.heap.size 9 Try.underlying25 infoStr rfl (by decide) _ _ _ rfl hrow12 _ rfl rfl (oneCell_string _) ?_ ?_ HU12.out.bel.size ?_; omega; omega; intro g14 cap14 w14 ho14 hg14 hb14 hl14))
                have HU14 := Lib.hid (HU12.out.beside hg14 (fun q hq => HW12.out.off q hq) (below_grown HU12.out.bel HU12.out.bel.size hrow12 hg14))
                have HR14 := Lib.hid (RowStr.of (l := recs ++ [lastB]) (v := .slice (some ⟨g14, 0, none⟩) (recs.length + 1) cap14) (ownsRow_base (by rw [List.length_append, List.map_append]; exact ho14) (Nat.zero_le _)))
                have HC := Lib.hid (same15_any lb11 b v11 _ (recs ++ [lastB]) (recs ++ [lastB]) _ w14 HU14.out.both.lg HR14.out (by simp; omega) (by simp; omega))
                rw [decide_eq_true (rfl : recs ++ [lastB] = recs ++ [lastB])] at HC
                clear ho14 hg14 hb14 hl14 hrow12
                refine HC.out.mono ?_
                rintro e w15 ⟨rfl, hb15⟩
                have HB15 := Lib.hid (HU14.out.up hb15).bel
                clear hb15 HC
                go_wp2
                go_ret
                exact ⟨rfl, HB15.out⟩
end Go.Proofs.Ytjdkhainlcalbaa
