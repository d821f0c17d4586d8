/- The law WalBytes: the walk. -/
import Derived.Test.YtjdkhainlcalbaaWi
import Derived.Test.YtjdkhainlcalbaaLawSwapsA
import Derived.Test.YtjdkhainlcalbaaAr
namespace Go.Proofs.Ytjdkhainlcalbaa
open Go.RowKit Go.Maps

theorem frames_snoc (l : List ByteArray) (s : ByteArray) : frames (l ++ [s]) = frames l ++ frame s := by
  unfold frames; rw [List.foldl_append]; rfl

/-- behind k records -/
def BytesI (w : World) (b lb k : Nat) (recs : List ByteArray) (wr : World) : Prop := ∃ D L v files i o, WlUp w wr b D L lb v recs false ∧ LogSt D (frames recs) files i o none ∧ recs.length ≤ k ∧ (∀ r ∈ recs, r.size ≤ 300) ∧ (frames recs).size ≤ 308 * k ∧ files.length ≤ 2 + k

set_option maxHeartbeats 3200000 in
set_option maxRecDepth 100000 in
theorem bytes_all (l : List ByteArray) (va : Value) (reset : Int) (w : World) (hv : ReadsS w va l) (hl : l.length ≤ 9223372036854775807 ∧ ∀ s ∈ l, s.size ≤ 9223372036854775807) :
    Calls Try.prog 12 #[va, .int .i64 reset] w fun e w' => e = .returned (.bool true) ∧ Below w.heap.size w w' := by
  have HS := Lib.hid (startUp w)
  have HA := Lib.hid fun w' => awake15_any w'
  obtain ⟨a, c, rfl, hcell⟩ := hv
  obtain ⟨hl1, hl2⟩ := hl
  have HV := Lib.hid hcell
  have HZ := Lib.hid hl2
  clear hcell hl2
  go_enter Try.func12, Try.ntmps12
  go_wp2_with fail
  refine HS.out.mono ?_
  rintro e w1 ⟨b, L, lb, v, rfl, hu⟩
  have HI := Lib.hid (show BytesI w b lb 0 [] w1 from ⟨_, L, v, _, _, _, hu, mkL_st, Nat.le_refl _, fun r hr => by simp at hr, Nat.le_refl _, Nat.le_refl _⟩)
  clear hu HS
  go_wp2
  go_loopw [7, 8] (fun s i wr => ∃ k recs, k ≤ 20 ∧ k ≤ l.length ∧ i = .int .i64 (k : Nat) ∧ s = .string (frames recs) ∧ BytesI w b lb k recs wr) (fun _ i _ => 20 - (intOf i).toNat)
  case atStart => exact ⟨0, [], by omega, by omega, rfl, rfl, HI.out⟩
  case round =>
    obtain ⟨k, recs, hk, hkl, rfl, rfl, hI⟩ := hrel
    obtain ⟨D, L, v, files, i, o, hu, hst, hr1, hr2, hr3, hr4⟩ := hI
    have HU := Lib.hid hu
    have HST := Lib.hid hst
    have HR2 := Lib.hid hr2
    have HR3 := Lib.hid hr3
    clear hu hst hr2 hr3
    by_cases hlt : k < l.length ∧ k < 20
    · obtain ⟨h1, h2⟩ := hlt
      obtain ⟨bb, oo, rfl, hbb, hcc⟩ := HV.out k h1
      have hcr : wr.cell? ⟨bb, oo + k, none⟩ = some (.string l[k]) := (HU.out.bel.cell (p := ⟨bb, oo + k, none⟩) hbb).trans hcc
      have hrz := HZ.out l[k] (List.getElem_mem _)
      clear hcc
      generalize l[k] = r at hcr hrz
      go_upto_if 42 with (fail)
      go_cut [9] (fun s9 wc => s9 = .string (cutB 300 r) ∧ wr = wc)
      case first =>
        by_cases h : 300 < r.size
        · have e : cutB 300 r = r.extract 0 300 := if_pos h
          have E := Lib.hid e
          clear e
          go_wp2_with (fail)
          go_meet
          exact ⟨by rw [E.out], rfl⟩
        · have e : cutB 300 r = r := if_neg h
          have E := Lib.hid e
          clear e
          go_wp2_with (fail)
          go_meet
          exact ⟨by rw [E.out], rfl⟩
      case rest =>
        obtain ⟨rfl, rfl⟩ := hcut
        have hcz := cutB_le 300 r
        clear hrz
        generalize cutB 300 r = s at *
        have HC := Lib.hid (addUp s HU.out HST.out (by omega) (by have := HR3.out; omega) (by omega) (by omega))
        have HF := Lib.hid fun w => frame_any s w (by omega)
        have hfz := frame_size s
        have HSN := Lib.hid (frames_snoc recs s)
        have hz3 : (frames recs).size ≤ 6160 := by have := HR3.out; omega
        go_wp2_with fail
        refine HC.out.mono ?_
        rintro e w2 ⟨rfl, D2, L2, v2, f2, hu2, hst2, hf2⟩
        have HU2 := Lib.hid hu2
        rw [← HSN.out] at hst2
        have HST2 := Lib.hid hst2
        clear hu2 hst2 HC
        go_wp2_with fail
        refine (HF.out w2).mono ?_
        rintro e w3 ⟨rfl, hb3⟩
        have HU3 := Lib.hid (HU2.out.up hb3)
        clear hb3 HU2 HU
        have hal2 : ∀ r ∈ recs ++ [s], r.size ≤ 300 := fun q hq => by
          rcases List.mem_append.1 hq with hq | hq
          · exact HR2.out q hq
          · rw [List.mem_singleton.1 hq]; exact hcz
        have HAL := Lib.hid hal2
        clear hal2
        have hz4 : (frames (recs ++ [s])).size ≤ 308 * (k + 1) := by
          rw [HSN.out, ByteArray.size_append, hfz]; have := HR3.out; omega
        by_cases hres : (k : Int) = reset
        · subst hres
          have HC := Lib.hid (resetUp HU3.out HST2.out (by omega) (by omega))
          go_wp2_with fail
          refine HC.out.mono ?_
          rintro e w4 ⟨rfl, D4, L4, v4, f4, i4, hu4, hst4, hf4⟩
          have HU4 := Lib.hid hu4
          have HST4 := Lib.hid (show LogSt D4 (frames []) f4 i4 o none from hst4)
          clear hu4 hst4 HC HU3
          have H1 := readUp logName HU4.out.dk (by decide)
          rw [HST4.out.read.1] at H1
          have HC := Lib.hid (show Calls _ _ _ _ fun e w' => e = .returned (.tuple #[.string ⟨#[]⟩, .int .i64 0]) ∧ w4 = w' from H1)
          clear H1
          go_wp2_with fail
          refine HC.out.mono ?_
          rintro e w5 ⟨rfl, rfl⟩
          go_wp2
          go_roundw
          case rel => exact ⟨k + 1, [], by omega, by omega, by go_num, rfl, D4, L4, v4, f4, i4, o, HU4.out, HST4.out, Nat.zero_le _, fun r hr => by simp at hr, Nat.zero_le _, by omega⟩
          case measure => simp [intOf]; omega
        · have hres2 : ((k : Int) == reset) = false := by simpa using hres
          clear hres
          have H1 := readUp logName HU3.out.dk (by decide)
          rw [HST2.out.read.1, HSN.out] at H1
          have HC := Lib.hid H1
          clear H1
          have HZ4 := Lib.hid hz4
          clear hz4
          generalize hfr : frame s = fr at *
          generalize hfs : frames recs = fs at *
          go_wp2_with fail
          refine HC.out.mono ?_
          rintro e w5 ⟨rfl, rfl⟩
          have hself : ((fs ++ fr).toList == (fs ++ fr).toList) = true := by simp
          go_wp2
          go_roundw
          case rel => exact ⟨k + 1, recs ++ [s], by omega, by omega, by go_num, by rw [HSN.out], D2, L2, v2, f2, i, o, HU3.out, HST2.out, by simp; omega, HAL.out, HZ4.out, by omega⟩
          case measure => simp [intOf]; omega
    · have hnm : kvNames D.folder = [logName, otherName] := by rw [HST.out.folder, fold_names]; rfl
      have H1 := list_any b D L wr HU.out.both.dk HST.out.dead (by rw [HST.out.folder]; show 2 ≤ _; decide)
      rw [hnm] at H1
      have HL := Lib.hid H1
      clear H1 hnm
      have hpf := parse_frames recs (fun r hr => Nat.le_trans (HR2.out r hr) (by decide)) (by omega)
      have hz3 : (frames recs).size ≤ 6160 := by have := HR3.out; omega
      have HP := Lib.hid fun w => parse_any (frames recs) w (by omega)
      rw [hpf] at HP
      clear hpf
      have HREC := Lib.hid fun w' (h : LgAt w' lb b v recs false) => records_any lb b v recs false w' h (by omega)
      generalize frames recs = fs at *
      generalize hrl : recs.length = rl at *
      have HRL := Lib.hid hrl
      clear hrl
      rcases (by omega : ¬ k < l.length ∨ (k < l.length ∧ ¬ k < 20)) with h1 | ⟨h1, h2⟩
      all_goals
        clear hlt
        go_wp2_with fail
        refine HL.out.mono ?_
        rintro e w2 ⟨u, rfl, ho2, hb2⟩
        obtain ⟨ua, uc, rfl⟩ : ∃ ua uc, u = .slice ua 2 uc := by
          rcases ho2.2 with ⟨q1, q2⟩ | ⟨g, cap, _, hv, _⟩
          · simp at q2
          · exact ⟨_, _, hv⟩
        have HU2 := Lib.hid (HU.out.up hb2)
        clear ho2 hb2
        go_wp2_with fail
        refine (HP.out w2).mono ?_
        rintro e w3 ⟨pv, rfl, ho3, hb3⟩
        obtain ⟨pa, pc, rfl⟩ : ∃ pa pc, pv = .slice pa rl pc := by
          rcases ho3.2 with ⟨q1, q2⟩ | ⟨g, cap, _, hv, _⟩
          · exact ⟨none, 0, by rw [q1, show rl = 0 from q2]⟩
          · exact ⟨_, _, hv⟩
        have HU3 := Lib.hid (HU2.out.up hb3)
        clear ho3 hb3 HU2
        go_wp2_with fail
        refine (HA.out w3).mono ?_
        rintro e w4 ⟨rfl, hb4⟩
        have HU4 := Lib.hid (HU3.out.up hb4)
        clear hb4 HU3
        go_wp2_with fail
        refine (HREC.out w4 HU4.out.both.lg).mono ?_
        rintro e w5 ⟨rv, rfl, _, hb5, ra, rc, rfl⟩
        have HU5 := Lib.hid (HU4.out.up hb5)
        clear hb5 HU4
        go_wp2
        go_ret
        exact ⟨rfl, HU5.out.bel⟩
end Go.Proofs.Ytjdkhainlcalbaa
