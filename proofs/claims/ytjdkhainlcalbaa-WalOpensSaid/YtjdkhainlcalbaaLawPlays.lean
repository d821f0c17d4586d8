/- The law WalPlays: the walk. -/
import Derived.Test.YtjdkhainlcalbaaWj
namespace Go.Proofs.Ytjdkhainlcalbaa
open Go.RowKit Go.Maps

/-- behind k calls -/
def PlaysI (w : World) (b lb k : Nat) (recs : List ByteArray) (vw : Value) (wr : World) : Prop := ∃ D L v files i o, WlRow w wr b D L lb v recs false vw recs ∧ LogSt D (frames recs) files i o none ∧ recs.length ≤ k ∧ (∀ r ∈ recs, r.size ≤ 300) ∧ (frames recs).size ≤ 308 * k ∧ files.length ≤ 2 + k

theorem row_nil (w : World) (e : TypeId) (B : Nat) (hB : B ≤ w.heap.size) : (w.alloc (.cells #[] e)).ownsRow B e 1 (.slice (some ⟨w.heap.size, 0, none⟩) 0 0) 0 [] :=
  World.ownsRow_lit (base := B) (size := 1) (e := e) w #[] 0 hB (by decide) rfl

set_option maxHeartbeats 6400000 in
set_option maxRecDepth 100000 in
theorem plays_all (l : List Op15) (va : Value) (ag : List Bool) (vb : Value) (w : World) (hv : RowOp15 w va l) (hb : RowBool w vb ag) :
    Calls Try.prog 11 #[va, vb] w fun e w' => e = .returned (.bool true) ∧ Below w.heap.size w w' := by
  have HS := Lib.hid (startUp w)
  have HA := Lib.hid fun w' => awake15_any w'
  obtain ⟨a, c, rfl, hl1, hcell⟩ := hv
  obtain ⟨a2, c2, rfl, hl2, hcell2⟩ := hb
  have HV := Lib.hid hcell
  have HG := Lib.hid hcell2
  clear hcell hcell2
  go_enter Try.func11, Try.ntmps11
  go_wp2_with fail
  refine HS.out.mono ?_
  rintro e w1 ⟨b, L, lb, v, rfl, hu⟩
  have hrow := hu.withRow ((Below.refl _ w1).alloc (Nat.le_refl _) (.cells #[] 9)) (want2 := []) (row_nil w1 9 w1.heap.size (Nat.le_refl _))
  have HR := Lib.hid hrow
  clear hu HS hrow
  go_wp2_with fail
  refine (HA.out _).mono ?_
  rintro e w2 ⟨rfl, hb2⟩
  have HR2 := Lib.hid (HR.out.bel hb2)
  clear hb2 HR
  go_wp2_with fail
  refine (same15Row HR2.out (by decide) (by decide)).mono ?_
  rintro e w3 ⟨rfl, hb3⟩
  have HR3 := Lib.hid (HR2.out.bel hb3)
  clear hb3 HR2
  have HI := Lib.hid (show PlaysI w b lb 0 [] (.slice (some ⟨w1.heap.size, 0, none⟩) 0 0) w3 from ⟨_, L, v, _, _, _, HR3.out, mkL_st, Nat.le_refl _, fun r hr => by simp at hr, Nat.le_refl _, Nat.le_refl _⟩)
  clear HR3
  go_wp2
  go_loopw [6, 7, 8] (fun sl sw i wr => ∃ k lb recs vw, k ≤ 30 ∧ k ≤ l.length ∧ i = .int .i64 (k : Nat) ∧ sl = .pointer (some ⟨lb, 0, none⟩) ∧ sw = vw ∧ PlaysI w b lb k recs vw wr) (fun _ _ i _ => 30 - (intOf i).toNat)
  case atStart => exact ⟨0, lb, [], _, by omega, by omega, rfl, rfl, rfl, HI.out⟩
  case round =>
    clear HI
    obtain ⟨k, lb, recs, vw, hk, hkl, rfl, rfl, rfl, hI⟩ := hrel
    obtain ⟨D, L, v, files, i, o, hu, hst, hr1, hr2, hr3, hr4⟩ := hI
    have HU := Lib.hid hu
    have HST := Lib.hid hst
    have HR2 := Lib.hid hr2
    have HR3 := Lib.hid hr3
    clear hu hst hr2 hr3
    by_cases hlt : k < l.length ∧ k < 30
    · obtain ⟨h1, h2⟩ := hlt
      obtain ⟨bb, oo, cs, rfl, hbb, hdec, hcc⟩ := HV.out k h1
      obtain ⟨rfl, hz, _, _, _⟩ := hdec
      have hc0 : wr.cell? ⟨bb, oo + k * 4, none⟩ = some (.bool (l[k]).reset) := (HU.out.up.bel.cell (p := ⟨bb, oo + k * 4, none⟩) hbb).trans (hcc 0 _ rfl)
      have hc1 : wr.cell? ⟨bb, oo + k * 4 + 1, none⟩ = some (.string (l[k]).add) := (HU.out.up.bel.cell (p := ⟨bb, oo + k * 4 + 1, none⟩) hbb).trans (hcc 1 _ rfl)
      clear hcc
      generalize l[k] = x at *
      obtain ⟨reset, s, arm, kv, ks⟩ := x
      simp only at hc0 hc1 hz
      go_upto_if 39 with (fail)
      go_cut [7] (fun s7 wc => ∃ recs2, PlaysI w b lb (k + 1) recs2 s7 wc)
      case first =>
        cases reset with
        | true =>
          have HC := Lib.hid (resetRow HU.out HST.out (by have := HR3.out; omega) (by omega))
          go_wp2_with (fail)
          refine HC.out.mono ?_
          rintro e w2 ⟨rfl, D4, L4, v4, f4, i4, hu4, hst4, hf4⟩
          have HI4 := Lib.hid (show PlaysI w b lb (k + 1) [] (.slice (some ⟨w2.heap.size, 0, none⟩) 0 0) (w2.alloc (.cells #[] 9)) from ⟨D4, L4, v4, f4, i4, o, hu4.up.withRow ((Below.refl _ _).alloc (Nat.le_refl _) _) (row_nil w2 9 _ (Nat.le_refl _)), hst4, Nat.zero_le _, fun r hr => by simp at hr, Nat.zero_le _, by omega⟩)
          clear hu4 hst4 HC hf4
          go_wp2_with (fail)
          go_meet
          exact ⟨[], HI4.out⟩
        | false =>
          have HF := Lib.hid (few_any s 300 wr hz)
          have hfz := few_size s 300
          generalize few s 300 = s3 at *
          have HC := Lib.hid (addRow s3 HU.out HST.out (by omega) (by have := HR3.out; omega) (by omega) (by omega))
          have hzz := frame_size s3
          have HSN := Lib.hid (frames_snoc recs s3)
          have hz4 : (frames (recs ++ [s3])).size ≤ 308 * (k + 1) := by
            rw [HSN.out, ByteArray.size_append, hzz]; have := HR3.out; omega
          have HZ4 := Lib.hid hz4
          have hal2 : ∀ r ∈ recs ++ [s3], r.size ≤ 300 := fun q hq => by
            rcases List.mem_append.1 hq with hq | hq
            · exact HR2.out q hq
            · rw [List.mem_singleton.1 hq]; exact hfz
          have HAL := Lib.hid hal2
          clear hal2 hz4 hzz
          go_wp2_with (fail)
          refine HF.out.mono ?_
          rintro e w2 ⟨rfl, rfl⟩
          go_wp2_with (fail)
          refine HC.out.mono ?_
          rintro e w2 ⟨rfl, D2, L2, v2, f2, hu2, hst2, hf2⟩
          have HU2 := Lib.hid hu2
          rw [← HSN.out] at hst2
          have HST2 := Lib.hid hst2
          have hrow2 := hu2.row
          clear hu2 hst2 HC
          go_wp2_with (first
            | (at_builtin; refine wpList_app1 rfl _ _ 25 rfl w.heap.size 9 Try.underlying25 infoStr rfl (by decide) _ _ _ rfl hrow2 _ rfl rfl (oneCell_string _) ?_ ?_ HU2.out.up.bel.size ?_; omega; omega; intro g6 cap6 w6 hst6 hgr6 _ hloc6))
          go_meet
          refine ⟨recs ++ [s3], D2, L2, v2, f2, i, o, HU2.out.grown hgr6 (by rw [List.map_append, List.length_append]; exact hst6) ?_, HST2.out, by simp; omega, HAL.out, HZ4.out, by omega⟩
          intro q hq
          obtain rfl := Option.some.inj hq
          exact hloc6.imp id (fun e => by show w2.heap.size ≤ g6; omega)
      case rest =>
        obtain ⟨recs2, hI2⟩ := hcut
        clear HU HST HR2 HR3 hr1 hr4 hc0 hc1
        obtain ⟨D2, L2, v2, f2, i2, o2, hu2, hst2, hr1, hr2, hr3, hr4⟩ := hI2
        have HU2 := Lib.hid hu2
        have HST2 := Lib.hid hst2
        have HR2 := Lib.hid hr2
        have HR3 := Lib.hid hr3
        clear hu2 hst2 hr2 hr3
        have H1 := same15Row HU2.out (by omega) (by omega)
        rw [decide_eq_true (rfl : recs2 = recs2)] at H1
        have HC := Lib.hid H1
        clear H1
        go_wp2_with fail
        refine HC.out.mono ?_
        rintro e w2 ⟨rfl, hb2⟩
        have HU3 := Lib.hid (HU2.out.bel hb2)
        clear hb2 HC HU2
        have HC := Lib.hid (othersUp HU3.out.up.dk HST2.out)
        go_wp2_with fail
        refine HC.out.mono ?_
        rintro e w3 ⟨rfl, hb3⟩
        have HU4 := Lib.hid (HU3.out.bel hb3)
        clear hb3 HC HU3
        have HI4 := Lib.hid (show PlaysI w b lb (k + 1) recs2 u7 w3 from ⟨D2, L2, v2, f2, i2, o2, HU4.out, HST2.out, hr1, HR2.out, HR3.out, hr4⟩)
        by_cases hag : k < ag.length
        · obtain ⟨b2, o3, cs2, rfl, hbb2, hdec2, hcc2⟩ := HG.out k hag
          subst hdec2
          have hcb : w3.cell? ⟨b2, o3 + k, none⟩ = some (.bool ag[k]) := by
            have := (HU4.out.up.bel.cell (p := ⟨b2, o3 + k * 1 + 0, none⟩) hbb2).trans (hcc2 0 _ rfl)
            rw [Nat.mul_one, Nat.add_zero] at this
            exact this
          clear hcc2
          generalize ag[k] = t at *
          cases t with
          | false =>
            go_wp2
            go_roundw
            case rel => exact ⟨k + 1, lb, recs2, u7, by omega, by omega, by go_num, rfl, rfl, HI4.out⟩
            case measure => simp [intOf]; omega
          | true =>
            have H1 := openRow HU4.out HST2.out
            rw [parse_frames recs2 (fun r hr => by have := HR2.out r hr; omega) (by omega), decide_eq_false (Nat.lt_irrefl _)] at H1
            have HC := Lib.hid H1
            clear H1
            go_wp2_with fail
            refine HC.out.mono ?_
            rintro e w4 ⟨lb2, v5, rfl, hu5, hb5⟩
            have HU5 := Lib.hid hu5
            clear hu5 hb5 HC
            have H1 := same15Row HU5.out (by omega) (by omega)
            rw [decide_eq_true (rfl : recs2 = recs2)] at H1
            have HC := Lib.hid H1
            clear H1
            go_wp2_with fail
            refine HC.out.mono ?_
            rintro e w5 ⟨rfl, hb6⟩
            have HU6 := Lib.hid (HU5.out.bel hb6)
            clear hb6 HC HU5
            have HI6 := Lib.hid (show PlaysI w b lb2 (k + 1) recs2 u7 w5 from ⟨D2, L2, v5, f2, i2, o2, HU6.out, HST2.out, hr1, HR2.out, HR3.out, hr4⟩)
            go_wp2
            go_roundw
            case rel => exact ⟨k + 1, lb2, recs2, u7, by omega, by omega, by go_num, rfl, rfl, HI6.out⟩
            case measure => simp [intOf]; omega
        · go_wp2
          go_roundw
          case rel => exact ⟨k + 1, lb, recs2, u7, by omega, by omega, by go_num, rfl, rfl, HI4.out⟩
          case measure => simp [intOf]; omega
    · rcases (by omega : ¬ k < l.length ∨ (k < l.length ∧ ¬ k < 30)) with h1 | ⟨h1, h2⟩
      all_goals
        clear hlt
        go_wp2
        go_ret
        exact ⟨rfl, HU.out.up.bel⟩
end Go.Proofs.Ytjdkhainlcalbaa
