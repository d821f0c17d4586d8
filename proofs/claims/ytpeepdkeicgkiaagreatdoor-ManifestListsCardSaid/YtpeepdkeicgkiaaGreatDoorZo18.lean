/- A crash: its walk. A disk's plain laws: what is used, what a crash leaves. Packs on a disk: what Publish does, plainly. -/
import Derived.Test.YtpeepdkeicgkiaaGreatDoorZo10
import Derived.Test.YtpeepdkeicgkiaaGreatDoorZo17
namespace Go.Proofs.YtpeepdkeicgkiaaGreatDoor
set_option linter.unusedVariables false
set_option linter.unusedSimpArgs false
set_option linter.unusedSectionVars false
open Go.RowKit Go.Maps

theorem cell_lt {w : World} {p : Addr} {u : Value} (h : w.cell? p = some u) : p.block < w.heap.size := by
  unfold World.cell? at h
  cases hb : w.heap[p.block]? with
  | none => simp [hb] at h
  | some o => exact (Array.getElem?_eq_some_iff.1 hb).1
theorem RowInt.below {w w' : World} {v : Value} {l : List Int} (h : RowInt w v l) (hb : Below w.heap.size w w') : RowInt w' v l := by
  rcases h with h | ⟨g, o, cap, rfl, hc⟩
  · exact Or.inl h
  · exact Or.inr ⟨g, o, cap, rfl, fun j hj => (hb.cell (p := ⟨g, o + j, none⟩) (cell_lt (hc j hj) :)).trans (hc j hj)⟩
/-- the steps' row, to be read -/
theorem steps_row {w : World} {v : Value} {l : List Sp} {bs : List Nat} (h : w.ownsRow 0 93 4 v l.length (l.flatMap (stepCells bs))) :
    ∃ a c, v = .slice a l.length c ∧ ∀ k (hk : k < l.length), ∃ g, a = some ⟨g, 0, none⟩ ∧ g < w.heap.size ∧ ∀ j, j < 4 → w.cell? ⟨g, k * 4 + j, none⟩ = (stepCells bs l[k])[j]? := by
  rcases h.2 with ⟨hv, h0⟩ | ⟨g, cap, cur, hv, _⟩
  · exact ⟨none, 0, by rw [hv, h0], fun k hk => by omega⟩
  · refine ⟨some ⟨g, 0, none⟩, cap, hv, fun k hk => ?_⟩
    obtain ⟨g', cap', e, h1, h2⟩ := step_cell h hk
    rw [hv] at e
    simp only [Value.slice.injEq, Option.some.injEq, Addr.mk.injEq] at e
    exact ⟨g', by rw [e.1.1], h1, h2⟩

set_option maxHeartbeats 1600000 in
set_option maxRecDepth 100000 in
theorem crash_any (b : Nat) (D : Dk) (L : Lay) (ks : List Int) (v : Value) (w : World) (h : DiskAt w b D L) (hv : RowInt w v ks) (hkl : ks.length ≤ 9223372036854775807) (hkb : ∀ x ∈ ks, -9223372036854775808 ≤ x ∧ x ≤ 9223372036854775807) (hst0 : D.steps.length ≤ 400000) (hf0 : D.files.length ≤ 400000) :
    Calls Tryz.prog 18 #[.pointer (some ⟨b, 0, none⟩), v] w fun e w' => e = .returned (.tuple #[]) ∧ DkPost b L (D.crash ks) w w' := by
  have hbl := h.blk.lt
  have HKB := Lib.hid hkb
  clear hkb
  have hve : ∃ va vc, v = .slice va ks.length vc := by
    rcases hv with ⟨⟨a, c, rfl⟩, rfl⟩ | ⟨g, o, cap, rfl, _⟩
    · exact ⟨_, _, rfl⟩
    · exact ⟨_, _, rfl⟩
  obtain ⟨va, vc, rfl⟩ := hve
  have c2 : w.cell? ⟨b, 2, none⟩ = some (.map (some L.sm)) := h.blk.cell 2
  have c3 : w.cell? ⟨b, 3, none⟩ = some L.v := h.blk.cell 3
  obtain ⟨a, c, hLv, hrow⟩ := steps_row h.st
  rw [hLv] at c3
  have HROW := Lib.hid hrow
  have c3w := Lib.hid c3
  have H := Lib.hid h
  have HV := Lib.hid hv
  clear hLv hrow h hv
  have HCL := Lib.hid fun w' (hb : Below w.heap.size w w') => clone_any L.sm _ w' (H.out.below hb).sf
  have HSAY := Lib.hid fun i bx w' (h1 : RowInt w' (.slice va ks.length vc) ks) (h2 : w'.cell? ⟨bx, 0, none⟩ = some (.slice va ks.length vc)) (hi : i ≤ 4611686018427387904) => say_any ks i bx _ w' h1 h2 hi hkl
  go_enter Tryz.func18, Tryz.ntmps18
  go_wp2_with fail
  have hb0 : Below w.heap.size w (w.alloc (  .cells #[.slice va ks.length vc] 48)) := (Below.refl _ w).alloc (Nat.le_refl _) _
  refine (HCL.out _ hb0).mono ?_
  rintro e w1 ⟨rfl, hlm, hb1, hz1⟩
  have hb01 : Below w.heap.size w w1 := hb0.trans (hb1.mono (by simp))
  have hbox : w1.cell? ⟨w.heap.size, 0, none⟩ = some (.slice va ks.length vc) := (hb1.cell (p := ⟨w.heap.size, 0, none⟩) (by simp)).trans ((BlockIs.new w #[.slice va ks.length vc] 48).cell 0)
  have c31 : w1.cell? ⟨b, 3, none⟩ = some (.slice a D.steps.length c) := (hb01.cell (p := ⟨b, 3, none⟩) hbl).trans c3
  simp only [World.size_alloc] at hlm hz1
  have HB := Lib.hid hb01
  have HZ := Lib.hid hz1
  clear hb0 hb1 hb01 hz1 c2 c3 HCL
  have e0 : Hid (kvMap (fileV L.bs) D.sure = kvMap (fileV L.bs) (D.leftAt ks 0)) := rfl
  rw [e0.out] at hlm
  clear e0
  have HLM := Lib.hid hlm
  clear hlm
  go_wp2
  go_loopw [26] (fun i wr => ∃ k : Nat, k ≤ D.steps.length ∧ i = .int .i64 k ∧ Touch (· = w.heap.size + 1) w1 wr ∧ ownsKV wr Tryz.prog 9 (w.heap.size + 1) (kvMap (fileV L.bs) (D.leftAt ks k))) (fun i _ => D.steps.length - (intOf i).toNat)
  case atStart => exact ⟨0, Nat.zero_le _, rfl, Touch.refl _ _, HLM.out⟩
  case round =>
    obtain ⟨k, hk, rfl, ht, hm⟩ := hrel
    by_cases hlt : k < D.steps.length
    · obtain ⟨g, rfl, hg, hcs⟩ := HROW.out k hlt
      have hgne : g ≠ w.heap.size + 1 := by omega
      have hgr : ∀ j, j < 4 → wr.cell? ⟨g, k * 4 + j, none⟩ = (stepCells L.bs D.steps[k])[j]? := fun j hj =>
        (ht.cell (p := ⟨g, k * 4 + j, none⟩) (Nat.lt_of_lt_of_le hg HB.out.size) hgne).trans ((HB.out.cell (p := ⟨g, k * 4 + j, none⟩) hg).trans (hcs j hj))
      have hidl := (H.out.ok.stp D.steps[k] (List.getElem_mem _))
      have HSUCC := Lib.hid (D.leftAt_succ ks k hlt)
      have HLK := Lib.hid (H.out.ok.leftAt ks k)
      generalize D.steps[k] = s at hgr hidl HSUCC hcs
      obtain ⟨kind, src, dst, id⟩ := s
      have d0 : wr.cell? ⟨g, k * 4, none⟩ = some (.int .i64 kind) := hgr 0 (by omega)
      have d1 : wr.cell? ⟨g, k * 4 + 1, none⟩ = some (.string src) := hgr 1 (by omega)
      have d2 : wr.cell? ⟨g, k * 4 + 2, none⟩ = some (.string dst) := hgr 2 (by omega)
      have d3 : wr.cell? ⟨g, k * 4 + 3, none⟩ = some (fileV L.bs id) := hgr 3 (by omega)
      have HID := Lib.hid hidl
      have HT := Lib.hid ht
      have HM := Lib.hid hm
      unfold fileV ptrV at d3
      generalize hc0 : L.bs.getD id 0 = c0 at d3
      have HC0 := Lib.hid hc0
      clear hgr hcs hidl ht hm hc0
      go_wp2_with fail
      generalize hw2 : wr.alloc (.cells #[.int .i64 kind, .string src, .string dst, .pointer (some ⟨c0, 0, none⟩)] 93) = w2
      have hsz := HB.out.size
      have htsz := HT.out.size
      have htwr := HT.out.below (B := w.heap.size) (by omega) (fun k hk => by omega)
      have hbw2 : Below w.heap.size w w2 := by rw [← hw2]; exact (HB.out.trans htwr).alloc (by omega) _
      have hblk2 : BlockIs w2 wr.heap.size #[.int .i64 kind, .string src, .string dst, .pointer (some ⟨c0, 0, none⟩)] 93 := by rw [← hw2]; exact BlockIs.new _ _ _
      have hbr2 : Below wr.heap.size wr w2 := by rw [← hw2]; exact (Below.refl _ wr).alloc (Nat.le_refl _) _
      have hzz := HZ.out
      have hlb : w.heap.size < w1.heap.size := by omega
      have hbox2 : w2.cell? ⟨w.heap.size, 0, none⟩ = some (.slice va ks.length vc) := (hbr2.cell (p := ⟨w.heap.size, 0, none⟩) (show w.heap.size < wr.heap.size from by omega)).trans ((HT.out.cell (p := ⟨w.heap.size, 0, none⟩) hlb (show ¬ w.heap.size = w.heap.size + 1 from by omega)).trans hbox)
      refine (HSAY.out k _ w2 (HV.out.below hbw2) hbox2 (by omega)).mono ?_
      rintro e w3 ⟨rfl, n, hw3⟩
      have hb23 : ∀ B, Below B w2 w3 := fun B => by rw [hw3]; exact ⟨rfl, rfl, rfl, Nat.le_refl _, fun _ _ => rfl⟩
      have hblk3 : BlockIs w3 wr.heap.size #[.int .i64 kind, .string src, .string dst, .pointer (some ⟨c0, 0, none⟩)] 93 := by rw [hw3]; exact hblk2
      have htr3 : Touch (· = w.heap.size + 1) w1 w3 := HT.out.trans (Touch.of_below (fun _ => False) (hbr2.trans (hb23 _))) (fun _ _ h => h.elim)
      have hm3 : ownsKV w3 Tryz.prog 9 (w.heap.size + 1) (kvMap (fileV L.bs) (D.leftAt ks k)) := ownsKV_block HM.out ((hbr2.trans (hb23 _)).block _ (ownsKV_lt HM.out))
      have HT3 := Lib.hid htr3
      have HBS := Lib.hid hblk3
      have e0 : w3.cell? ⟨wr.heap.size, 0, none⟩ = some (.int .i64 kind) := hblk3.cell 0
      have e1 : w3.cell? ⟨wr.heap.size, 1, none⟩ = some (.string src) := hblk3.cell 1
      have e2 : w3.cell? ⟨wr.heap.size, 2, none⟩ = some (.string dst) := hblk3.cell 2
      have e3 : w3.cell? ⟨wr.heap.size, 3, none⟩ = some (.pointer (some ⟨c0, 0, none⟩)) := hblk3.cell 3
      clear hbw2 hblk2 hbox2 hb23 hblk3 htr3 hw3 hw2 hbr2 htwr d0 d1 d2 d3
      go_wp2_with fail
      refine (place_any (sayI ks k) 2 w3 (sayI_ok HKB.out k) (by omega)).mono ?_
      rintro e w4 ⟨rfl, rfl⟩
      by_cases hp : sayI ks k % 2 = 0
      · have HE := Lib.hid (HSUCC.out.trans (leftStep_skip _ hp))
        rw [hp]
        clear hp
        go_wp2
        go_roundw
        case rel => exact ⟨k + 1, by omega, by go_num, HT3.out, by rw [HE.out]; exact hm3⟩
        case measure => simp [intOf]; omega
      · have HP := Lib.hid hp
        have hp1 : sayI ks k % 2 = 1 := by omega
        rw [hp1]
        clear hp hp1
        have hz0 := fun w => zero_ptr w
        have hssz : src.size ≤ maxLen := by have h80 : src.size ≤ 80 := HID.out.2.1; unfold maxLen; omega
        have hdsz : dst.size ≤ maxLen := by have h80 : dst.size ≤ 80 := HID.out.2.2; unfold maxLen; omega
        cases hg : kvGet (D.leftAt ks k) src with
        | none =>
          have hget : kvGet (kvMap (fileV L.bs) (D.leftAt ks k)) src = none := by rw [kvGet_map, hg]; rfl
          have HG := Lib.hid hg
          clear hg
          rcases (by omega : kind = 1 ∨ kind = 2 ∨ kind = 3 ∨ (kind ≠ 1 ∧ kind ≠ 2 ∧ kind ≠ 3)) with rfl | rfl | rfl | ⟨k1, k2, k3⟩
          · have HE := Lib.hid (HSUCC.out.trans (leftStep_put HP.out HG.out))
            have hll : (kvMap (fileV L.bs) (D.leftAt ks k)).length < 1099511627776 := by rw [kvMap_len]; have := D.leftAt_len ks k; have := H.out.ok.sln; omega
            go_wp2_with (first
              | (at_lookup; refine wpList_kvNone rfl _ _ 69 rfl Tryz.underlying9 Tryz.underlying69 (hz0 _) rfl hm3 rfl hssz hget ?_)
              | (at_mapUpdate; refine wpList_kvStore rfl _ _ _ 69 rfl Tryz.underlying9 Tryz.underlying69 rfl hm3 hll rfl hssz rfl ?_; intro w5 hm5 htu5)
              | go_in)
            go_roundw
            case rel =>
              refine ⟨k + 1, by omega, by go_num, HT3.out.trans (Touch.of_turned htu5) (fun _ _ h => h), ?_⟩
              rw [HE.out, ← kvPut_map]
              show ownsKV w5 _ _ _ (kvPut _ src (.pointer (some ⟨L.bs.getD id 0, 0, none⟩)))
              rw [HC0.out]; exact hm5
            case measure => simp [intOf]; omega
          · have HE := Lib.hid (HSUCC.out.trans (leftStep_none HG.out (by omega)))
            go_wp2_with (first | (at_lookup; refine wpList_kvNone rfl _ _ 69 rfl Tryz.underlying9 Tryz.underlying69 (hz0 _) rfl hm3 rfl hssz hget ?_) | go_in)
            go_roundw
            case rel => exact ⟨k + 1, by omega, by go_num, HT3.out, by rw [HE.out]; exact hm3⟩
            case measure => simp [intOf]; omega
          · have HE := Lib.hid (HSUCC.out.trans (leftStep_none HG.out (by omega)))
            go_wp2_with (first | (at_lookup; refine wpList_kvNone rfl _ _ 69 rfl Tryz.underlying9 Tryz.underlying69 (hz0 _) rfl hm3 rfl hssz hget ?_) | go_in)
            go_roundw
            case rel => exact ⟨k + 1, by omega, by go_num, HT3.out, by rw [HE.out]; exact hm3⟩
            case measure => simp [intOf]; omega
          · have HE := Lib.hid (HSUCC.out.trans (leftStep_none HG.out k1))
            go_wp2_with (first | (at_lookup; refine wpList_kvNone rfl _ _ 69 rfl Tryz.underlying9 Tryz.underlying69 (hz0 _) rfl hm3 rfl hssz hget ?_) | go_in)
            go_roundw
            case rel => exact ⟨k + 1, by omega, by go_num, HT3.out, by rw [HE.out]; exact hm3⟩
            case measure => simp [intOf]; omega
        | some j =>
          have hget : kvGet (kvMap (fileV L.bs) (D.leftAt ks k)) src = some (.pointer (some ⟨L.bs.getD j 0, 0, none⟩)) := by rw [kvGet_map, hg]; rfl
          have hjl : j < L.bs.length := by rw [H.out.len]; exact HLK.out.ids _ (kvGet_mem hg)
          have hil : id < L.bs.length := by rw [H.out.len]; exact HID.out.1
          have HG := Lib.hid hg
          clear hg
          by_cases hj : j = id
          · subst hj
            rw [HC0.out] at hget
            have hpe := file_same w3 c0
            clear hjl hil
            rcases (by omega : kind = 1 ∨ kind = 2 ∨ kind = 3 ∨ (kind ≠ 1 ∧ kind ≠ 2 ∧ kind ≠ 3)) with rfl | rfl | rfl | ⟨k1, k2, k3⟩
            · have HE := Lib.hid (HSUCC.out.trans (leftStep_kind HG.out (by omega) (by omega)))
              go_wp2_with (first | (at_lookup; refine wpList_kvFound rfl _ _ 69 rfl Tryz.underlying9 Tryz.underlying69 (hz0 _) rfl hm3 rfl hssz hget ?_) | go_in)
              go_roundw
              case rel => exact ⟨k + 1, by omega, by go_num, HT3.out, by rw [HE.out]; exact hm3⟩
              case measure => simp [intOf]; omega
            · have HE := Lib.hid (HSUCC.out.trans (leftStep_ren HP.out HG.out))
              have hll : (kvDel (kvMap (fileV L.bs) (D.leftAt ks k)) src).length < 1099511627776 := by have h9 := kvDel_len (kvMap (fileV L.bs) (D.leftAt ks k)) src; rw [kvMap_len] at h9; have := D.leftAt_len ks k; have := H.out.ok.sln; omega
              go_wp2_with (first
                | (at_lookup; refine wpList_kvFound rfl _ _ 69 rfl Tryz.underlying9 Tryz.underlying69 (hz0 _) rfl hm3 rfl hssz hget ?_)
                | (at_delete; refine wpList_kvDelete rfl _ _ 69 9 rfl Tryz.underlying9 Tryz.underlying69 rfl hm3 rfl hssz ?_; intro w5 hm5 htu5;
                    have ht5 := Lib.hid (Touch.of_turned htu5);
                    have hblk5 := HBS.out.keep (ht5.out.block _ HBS.out.lt (by omega));
                    have e15 : w5.cell? ⟨wr.heap.size, 1, none⟩ = some (.string src) := hblk5.cell 1;
                    have e25 : w5.cell? ⟨wr.heap.size, 2, none⟩ = some (.string dst) := hblk5.cell 2;
                    have e35 : w5.cell? ⟨wr.heap.size, 3, none⟩ = some (.pointer (some ⟨c0, 0, none⟩)) := hblk5.cell 3;
                    clear hblk5 htu5)
                | (at_mapUpdate; refine wpList_kvStore rfl _ _ _ 69 rfl Tryz.underlying9 Tryz.underlying69 rfl hm5 hll rfl hdsz rfl ?_; intro w6 hm6 htu6)
                | go_in)
              go_roundw
              case rel =>
                refine ⟨k + 1, by omega, by go_num, (HT3.out.trans ht5.out (fun _ _ h => h)).trans (Touch.of_turned htu6) (fun _ _ h => h), ?_⟩
                rw [HE.out, ← kvPut_map, ← kvDel_map]
                show ownsKV w6 _ _ _ (kvPut _ dst (.pointer (some ⟨L.bs.getD j 0, 0, none⟩)))
                rw [HC0.out]; exact hm6
              case measure => simp [intOf]; omega
            · have HE := Lib.hid (HSUCC.out.trans (leftStep_del HP.out HG.out))
              go_wp2_with (first
                | (at_lookup; refine wpList_kvFound rfl _ _ 69 rfl Tryz.underlying9 Tryz.underlying69 (hz0 _) rfl hm3 rfl hssz hget ?_)
                | (at_delete; refine wpList_kvDelete rfl _ _ 69 9 rfl Tryz.underlying9 Tryz.underlying69 rfl hm3 rfl hssz ?_; intro w5 hm5 htu5)
                | go_in)
              go_roundw
              case rel =>
                refine ⟨k + 1, by omega, by go_num, HT3.out.trans (Touch.of_turned htu5) (fun _ _ h => h), ?_⟩
                rw [HE.out, ← kvDel_map]; exact hm5
              case measure => simp [intOf]; omega
            · have HE := Lib.hid (HSUCC.out.trans (leftStep_kind HG.out k2 k3))
              go_wp2_with (first | (at_lookup; refine wpList_kvFound rfl _ _ 69 rfl Tryz.underlying9 Tryz.underlying69 (hz0 _) rfl hm3 rfl hssz hget ?_) | go_in)
              go_roundw
              case rel => exact ⟨k + 1, by omega, by go_num, HT3.out, by rw [HE.out]; exact hm3⟩
              case measure => simp [intOf]; omega
          · have hne : L.bs.getD j 0 ≠ c0 := fun e => hj (getD_inj (nd_bs H.out.nd) hjl hil (by rw [e, HC0.out]))
            have HE := Lib.hid (HSUCC.out.trans (leftStep_other (kind := kind) (dst := dst) HG.out hj))
            have hold : ∀ i, i < D.files.length → BlockIs w3 (L.bs.getD i 0) (flCells (D.flAt i)) 101 := fun i hi => by
              have h1 := H.out.fs i hi
              have h2 := h1.lt
              exact h1.keep ((HT3.out.block _ (by omega) (by omega)).trans (HB.out.block _ h2))
            have hpe := file_other (hold j (by rw [← H.out.len]; exact hjl)) (hold id (by rw [← H.out.len]; exact hil)) (by rw [HC0.out]; exact hne)
            rw [HC0.out] at hpe
            generalize L.bs.getD j 0 = c1 at hget hne hpe
            clear hjl hil hj hold
            rcases (by omega : kind = 1 ∨ kind = 2 ∨ kind = 3 ∨ (kind ≠ 1 ∧ kind ≠ 2 ∧ kind ≠ 3)) with rfl | rfl | rfl | ⟨k1, k2, k3⟩
            all_goals
              go_wp2_with (first | (at_lookup; refine wpList_kvFound rfl _ _ 69 rfl Tryz.underlying9 Tryz.underlying69 (hz0 _) rfl hm3 rfl hssz hget ?_) | go_in)
              go_roundw
              case rel => exact ⟨k + 1, by omega, by go_num, HT3.out, by rw [HE.out]; exact hm3⟩
              case measure => simp [intOf]; omega
    · obtain rfl : k = D.steps.length := by omega
      have hmm := @run_makeMap Tryz.prog
      have HT := Lib.hid ht
      have HM := Lib.hid hm
      clear ht hm
      have hwb := HB.out.size
      have htz := HT.out.size
      have hzz := HZ.out
      have hbxr : wr.cell? ⟨w.heap.size, 0, none⟩ = some (.slice va ks.length vc) := (HT.out.cell (p := ⟨w.heap.size, 0, none⟩) (show w.heap.size < w1.heap.size by omega) (show ¬ w.heap.size = w.heap.size + 1 by omega)).trans hbox
      have hbr : Below w.heap.size w wr := HB.out.trans (HT.out.below (by omega) (fun k hk => by omega))
      have HBR := Lib.hid hbr
      have hke := keys_any (w.heap.size + 1) (wr.alloc (.map #[] 0))
      have hll : (kvMap (fileV L.bs) (D.leftAt ks D.steps.length)).length ≤ 1000000 := by
        rw [kvMap_len]; have := D.leftAt_len ks D.steps.length; have := H.out.ok.sln; omega
      have hso := sorted_any (w.heap.size + 1) _ (wr.alloc (.map #[] 0)) (ownsKV_block HM.out (Below.heap_alloc _ _ _ (ownsKV_lt HM.out))) hll
      have hwz : (wr.alloc (.map #[] 0)).heap.size = wr.heap.size + 1 := World.size_alloc _ _
      rw [hwz] at hso
      have hnm := ownsKV_made wr Tryz.prog 9
      have HKE := Lib.hid hke
      have HSO := Lib.hid hso
      have HNM := Lib.hid hnm
      clear hke hso hnm hbr hbox HROW
      go_wp2_with fail
      refine HKE.out.mono ?_
      rintro e w5 ⟨rfl, rfl⟩
      go_wp2_with fail
      refine HSO.out.mono ?_
      rintro e w6 ⟨nv, rfl, hnv, hb6⟩
      rw [← hwz] at hb6
      have hb56 : Below wr.heap.size wr w6 := ((Below.refl _ wr).alloc (Nat.le_refl _) _).trans (((Below.refl _ (wr.alloc (.map #[] 0))).alloc (Nat.le_refl _) _ |>.trans hb6).mono (by simp))
      have hfm6 : w6.heap[wr.heap.size]? = (wr.alloc (.map #[] 0)).heap[wr.heap.size]? := (((Below.refl _ (wr.alloc (.map #[] 0))).alloc (Nat.le_refl _) _).trans hb6).block _ (by simp)
      have hnew : NewAt w6 w6 wr.heap.size D ks 0 [] := ⟨Touch.refl _ _, rfl, fun c hc => by simp at hc, List.nodup_nil, fun i hi => by omega, ownsKV_block HNM.out hfm6⟩
      have hz6 := (((Below.refl _ (wr.alloc (.map #[] 0))).alloc (Nat.le_refl _) (.cells #[.map (some (w.heap.size + 1))] 69)).trans hb6).size
      have hbw6 : Below w.heap.size w w6 := HBR.out.trans (hb56.mono (by omega))
      have hlm6 : ownsKV w6 Tryz.prog 9 (w.heap.size + 1) (kvMap (fileV L.bs) (D.left ks)) := ownsKV_block HM.out (hb56.block _ (ownsKV_lt HM.out))
      have hbx6 : w6.cell? ⟨w.heap.size, 0, none⟩ = some (.slice va ks.length vc) := (hb56.cell (p := ⟨w.heap.size, 0, none⟩) (show w.heap.size < wr.heap.size by omega)).trans hbxr
      have hnl : (kvNames (kvMap (fileV L.bs) (D.leftAt ks D.steps.length))) = D.leftNames ks := kvNames_map _ _
      rw [hnl] at hnv
      obtain ⟨na, nc, rfl, hnc⟩ := row_reads hnv
      have HNC := Lib.hid hnc
      have HNW := Lib.hid hnew
      have HB6 := Lib.hid hbw6
      have HL6 := Lib.hid hlm6
      have hfz : wr.heap.size < w6.heap.size := by simp at hz6; omega
      clear hnv hb6 hb56 hfm6 hnew hz6 hbw6 hlm6 hnl hnc HKE HSO HNM hmm hll
      have hfl : w.heap.size + 1 < wr.heap.size := by omega
      have hwl : w.heap.size < w6.heap.size := by omega
      generalize hfm : wr.heap.size = fm at HNW hfz HNC hfl ⊢
      go_wp2
      go_loopw [99] (fun i wq => ∃ (k : Nat) (newbs : List Nat), k ≤ (D.leftNames ks).length ∧ i = .int .i64 k ∧ NewAt w6 wq fm D ks k newbs) (fun i _ => (D.leftNames ks).length - (intOf i).toNat)
      case atStart => exact ⟨0, [], Nat.zero_le _, rfl, HNW.out⟩
      case round =>
        obtain ⟨k, newbs, hk, rfl, hna⟩ := hrel
        have HA := Lib.hid hna
        clear hna
        by_cases hlt : k < (D.leftNames ks).length
        · obtain ⟨ng, rfl, hng0, hngl, hncell⟩ := HNC.out k hlt
          have cn : wr.cell? ⟨ng, k, none⟩ = some (.string (D.leftNames ks)[k]) := (HA.out.touch.cell (p := ⟨ng, k, none⟩) hngl (show ¬ ng = fm by omega)).trans hncell
          obtain ⟨id, hmem, hget0⟩ := kvNames_get (H.out.ok.leftAt ks D.steps.length).apart hlt
          have hget : kvGet (kvMap (fileV L.bs) (D.left ks)) (D.leftNames ks)[k] = some (.pointer (some ⟨L.bs.getD id 0, 0, none⟩)) := by
            rw [kvGet_map, show kvGet (D.left ks) (D.leftNames ks)[k] = some id from hget0]; rfl
          have hid : id < D.files.length := (H.out.ok.leftAt ks D.steps.length).ids _ hmem
          have hnsz : (D.leftNames ks)[k].size ≤ 80 := (H.out.ok.leftAt ks D.steps.length).nam _ hmem
          have hnf : (D.leftNames ks).getD k ByteArray.empty = (D.leftNames ks)[k] := by rw [List.getD, List.getElem?_eq_getElem hlt]; rfl
          have hfl : D.newFl ks k = ⟨(D.flAt id).data.extract 0 (D.keepN ks k id), D.keepN ks k id⟩ := by
            unfold Dk.newFl Dk.leftFile
            rw [hnf, show kvGet (D.left ks) (D.leftNames ks)[k] = some id from hget0]; rfl
          have HSTEP := Lib.hid fun n0 w' => HA.out.step (w' := w') (n0 := n0) hfz
          rw [hnf, hfl] at HSTEP
          have hwz := HB6.out.size
          have hlmr : ownsKV wr Tryz.prog 9 (w.heap.size + 1) (kvMap (fileV L.bs) (D.left ks)) := ownsKV_block HL6.out (HA.out.touch.block _ (ownsKV_lt HL6.out) (by omega))
          have hold : ∀ c, c < w.heap.size → wr.heap[c]? = w.heap[c]? := fun c hc => (HA.out.touch.block _ (by omega) (by omega)).trans (HB6.out.block _ hc)
          have hblkf := (H.out.fs id hid).keep (hold _ (H.out.fs id hid).lt)
          have d0 : wr.cell? ⟨L.bs.getD id 0, 0, none⟩ = some (.string (D.flAt id).data) := hblkf.cell 0
          have d1 : wr.cell? ⟨L.bs.getD id 0, 1, none⟩ = some (.int .i64 (D.flAt id).safe) := hblkf.cell 1
          have c3r : wr.cell? ⟨b, 3, none⟩ = some (.slice a D.steps.length c) := (World.cell?_of_block (w := w) (a := ⟨b, 3, none⟩) (hold b hbl)).trans c3w.out
          have hbxr : wr.cell? ⟨w.heap.size, 0, none⟩ = some (.slice va ks.length vc) := (HA.out.touch.cell (p := ⟨w.heap.size, 0, none⟩) hwl (show ¬ w.heap.size = fm by omega)).trans hbx6
          have hbwr : Below w.heap.size w wr := HB6.out.trans (HA.out.touch.below (by omega) (fun k hk => by omega))
          have HBW := Lib.hid hbwr
          have hflz := flAt_le H.out.ok id
          obtain ⟨hz1, hz2⟩ := hflz
          have hmp := HA.out.mp
          generalize L.bs.getD id 0 = cid at d0 d1 hget
          have hkn : D.keepN ks k id = (D.flAt id).safe + (sayI ks (D.steps.length + k) % (((D.flAt id).data.size - (D.flAt id).safe + 1 : Nat) : Int)).toNat := rfl
          generalize D.keepN ks k id = kn at hkn HSTEP
          generalize (D.flAt id).data = fdata at *
          generalize (D.flAt id).safe = fsafe at *
          generalize (D.leftNames ks)[k] = name at *
          have HKN := Lib.hid hkn
          clear hkn hold hblkf hbwr hmem hget0 hnf hfl hncell
          have hz0 := fun w => zero_ptr w
          have hssz : name.size ≤ maxLen := by unfold maxLen; omega
          go_upto_region 21 with (first
            | (at_lookup; refine wpList_kvThere rfl _ _ 69 rfl Tryz.underlying9 Tryz.underlying69 (hz0 _) rfl hlmr rfl hssz hget ?_)
            | go_in)
          have hsv := sayI_ok HKB.out (D.steps.length + k)
          have hnl : (D.leftNames ks).length ≤ 800000 := by
            show (kvNames (D.left ks)).length ≤ 800000
            rw [kvNames_len]; have := D.leftAt_len ks D.steps.length; have := H.out.ok.sln; show (D.leftAt ks D.steps.length).length ≤ _; omega
          have HSR := Lib.hid fun n => HSAY.out (D.steps.length + k) w.heap.size (wr.drewN n) (HV.out.below (HBW.out.trans ⟨rfl, rfl, rfl, Nat.le_refl _, fun _ _ => rfl⟩)) hbxr (by omega)
          rw [Int.natCast_add] at HSR
          generalize sayI ks (D.steps.length + k) = sv at *
          have hd1 : (0 : Int) < (fdata.size : Int) - (fsafe : Int) + 1 ∧ (fdata.size : Int) - (fsafe : Int) + 1 ≤ 4611686018427387904 := by omega
          have HPR := Lib.hid fun n => place_any sv ((fdata.size : Int) - (fsafe : Int) + 1) (wr.drewN n) hsv hd1 |>.mono fun e w' ⟨h1, h2⟩ => (⟨h1, h2.symm⟩ : _ ∧ w' = wr.drewN n)
          have hpv1 := Int.emod_nonneg sv (b := (fdata.size : Int) - (fsafe : Int) + 1) (by omega)
          have hpv2 := Int.emod_lt_of_pos sv hd1.1
          have hknn : (kn : Int) = (fsafe : Int) + sv % ((fdata.size : Int) - (fsafe : Int) + 1) := by
            rw [HKN.out]
            have : ((fdata.size - fsafe + 1 : Nat) : Int) = (fdata.size : Int) - (fsafe : Int) + 1 := by omega
            rw [this]; omega
          generalize sv % ((fdata.size : Int) - (fsafe : Int) + 1) = pv at *
          have hkn1 : (kn : Int) ≤ (fdata.size : Int) := by omega
          have hkn2 : (kn : Int) ≤ 1073741824 := by omega
          have wr1 : IntKind.i64.wrap ((D.steps.length : Int) + (k : Int)) = (D.steps.length : Int) + (k : Int) := IntWalk.i64_in _ (by omega)
          have wr2 : IntKind.i64.wrap ((fdata.size : Int) - (fsafe : Int)) = (fdata.size : Int) - (fsafe : Int) := IntWalk.i64_in _ (by omega)
          have wr3 : IntKind.i64.wrap ((fdata.size : Int) - (fsafe : Int) + 1) = (fdata.size : Int) - (fsafe : Int) + 1 := IntWalk.i64_in _ (by omega)
          have wr4 : IntKind.i64.wrap ((fsafe : Int) + pv) = (kn : Int) := by rw [IntWalk.i64_in _ (by omega)]; exact hknn.symm
          have HQ := Lib.hid (And.intro hknn (And.intro hpv1 hpv2))
          have HKK := Lib.hid (And.intro hkn1 hkn2)
          clear hknn hpv1 hpv2 hsv hd1 hkn1 hkn2 HKN
          go_quiet (first
            | (go_at_call 47; exact Calls.quiet_of (HSR.out _))
            | (go_at_call 49; exact Calls.quiet_of_same (HPR.out _)))
          have hzr : ∀ o, (((wr.drewN nq).alloc o).heap[fm]? = wr.heap[fm]?) := fun o => Below.heap_alloc _ _ _ (show fm < wr.heap.size from ownsKV_lt hmp)
          have HMP := Lib.hid fun o => ownsKV_block (w' := (wr.drewN nq).alloc o) hmp (hzr o)
          have hll : (kvMap (fileV newbs) (D.newFolder ks k)).length < 1099511627776 := by rw [kvMap_len]; have := D.newFolder_len ks k; omega
          have ck1 : (kn : Int) ≤ (fdata.size : Int) := HKK.out.1
          clear hzr hmp wr1 wr2 wr3 wr4
          go_wp2_with (first
            | (at_mapUpdate; refine wpList_kvStore rfl _ _ _ 69 rfl Tryz.underlying9 Tryz.underlying69 rfl (HMP.out _) hll rfl hssz rfl ?_; intro w7 hm7 htu7)
            | go_in)
          go_roundw
          case rel =>
            have ht7 := Touch.of_turned htu7
            have hfr : fm < wr.heap.size := by have := HA.out.touch.size; omega
            refine ⟨k + 1, newbs ++ [wr.heap.size], by omega, by go_num, HSTEP.out wr.heap.size w7 (Nat.le_refl _) ?_ ?_ hm7⟩
            · exact (Touch.of_below (· = fm) ((⟨rfl, rfl, rfl, Nat.le_refl _, fun _ _ => rfl⟩ : Below wr.heap.size wr (wr.drewN nq)).alloc (Nat.le_refl _) _)).trans ht7 (fun _ _ h => h)
            · refine (BlockIs.new (wr.drewN nq) _ _).keep (ht7.block _ ?_ ?_)
              · show wr.heap.size < _; rw [World.size_alloc]; exact Nat.lt_succ_self _
              · show ¬ wr.heap.size = fm; omega
          case measure => simp [intOf]; omega
        · obtain rfl : k = (D.leftNames ks).length := by omega
          have hclo := clone_any fm _ wr HA.out.mp
          have HCLO := Lib.hid hclo
          clear hclo hlt hk
          have hblr := H.out.blk.keep ((HA.out.touch.block b (by have := HB6.out.size; omega) (by omega)).trans (HB6.out.block b hbl))
          have HBL := Lib.hid hblr
          clear hblr
          go_wp2_with fail
          refine HCLO.out.mono ?_
          rintro e w8 ⟨rfl, hcl, hb8, hz8⟩
          have hbl8 := HBL.out.keep (hb8.block b HBL.out.lt)
          have f1 : w8.frozen? ⟨b, 1, none⟩ = false := hbl8.free 1
          have f2 : w8.frozen? ⟨b, 2, none⟩ = false := hbl8.free 2
          have f3 : w8.frozen? ⟨b, 3, none⟩ = false := hbl8.free 3
          have f4 : w8.frozen? ⟨b, 4, none⟩ = false := hbl8.free 4
          have f5 : w8.frozen? ⟨b, 5, none⟩ = false := hbl8.free 5
          have k1 : w8.cell? ⟨b, 1, none⟩ = some (.map (some L.bm)) := hbl8.cell 1
          have k2 : w8.cell? ⟨b, 2, none⟩ = some (.map (some L.sm)) := hbl8.cell 2
          have k3 : w8.cell? ⟨b, 3, none⟩ = some L.v := hbl8.cell 3
          have k4 : w8.cell? ⟨b, 4, none⟩ = some (.int .i64 D.arm) := hbl8.cell 4
          have k5 : w8.cell? ⟨b, 5, none⟩ = some (.bool D.dead) := hbl8.cell 5
          have HCL := Lib.hid hcl
          have HB8 := Lib.hid hb8
          have HBB := Lib.hid hbl8
          clear hcl hb8 hz8 hbl8
          go_wp2
          go_end0
          refine ⟨rfl, crash_fin H.out HB6.out hfz (by omega) HA.out HCL.out HB8.out ?_ ?_⟩
          rotate_left
          · exact ((((HBB.out.set 1 _).set 2 _).set 3 _).set 4 _).set 5 _
          · exact ((((Touch.setc w8 b 1 _).trans (Touch.setc _ b 2 _) (fun _ _ h => h)).trans (Touch.setc _ b 3 _) (fun _ _ h => h)).trans (Touch.setc _ b 4 _) (fun _ _ h => h)).trans (Touch.setc _ b 5 _) (fun _ _ h => h)
end Go.Proofs.YtpeepdkeicgkiaaGreatDoor
namespace Go.Proofs.YtpeepdkeicgkiaaGreatDoor
set_option linter.unusedVariables false
set_option linter.unusedSimpArgs false
set_option linter.unusedSectionVars false
open Go.RowKit Go.Maps

theorem sum_perm {l m : List Nat} (h : l.Perm m) : l.sum = m.sum := by
  induction h with
  | nil => rfl
  | cons x _ ih => simp [ih]
  | swap x y l => simp; omega
  | trans _ _ h1 h2 => exact h1.trans h2
theorem kvSum_perm {α : Type} (f : α → Nat) {l m : List (ByteArray × α)} (h : l.Perm m) : kvSum f l = kvSum f m := sum_perm (h.map _)
theorem kvSum_put {α : Type} (f : α → Nat) (l : List (ByteArray × α)) (k : ByteArray) (v : α) : kvSum f (kvPut l k v) = f v + kvSum f (kvDel l k) := by
  rw [kvSum_perm f (kvPut_perm l k v)]; simp [kvSum]
theorem kvGet_none_ne {α : Type} {l : List (ByteArray × α)} {k : ByteArray} (h : kvGet l k = none) : ∀ p ∈ l, p.1 ≠ k := by
  intro p hp e
  unfold kvGet at h
  rw [Option.map_eq_none_iff, List.find?_eq_none] at h
  exact h p hp (by simp [e])
theorem kvGet_none_of {α : Type} {l : List (ByteArray × α)} {k : ByteArray} (h : ∀ p ∈ l, p.1 ≠ k) : kvGet l k = none := by
  unfold kvGet
  rw [Option.map_eq_none_iff, List.find?_eq_none]
  intro p hp; simpa using h p hp
theorem kvSum_congr {α : Type} {f g : α → Nat} {l : List (ByteArray × α)} (h : ∀ p ∈ l, f p.2 = g p.2) : kvSum f l = kvSum g l := by
  unfold kvSum; rw [List.map_congr_left h]
/-- what a new file adds -/
theorem used_put {D : Dk} (h : DkOk D) {name : ByteArray} (hg : kvGet D.folder name = none) (data : ByteArray) : (D.put name data).used = D.used + data.size := by
  unfold Dk.put
  rw [hg]
  show kvSum (fun i => ((D.files ++ [(⟨data, 0⟩ : Fl)]).getD i ⟨ByteArray.empty, 0⟩).data.size) (kvPut D.folder name D.files.length) = _
  rw [kvSum_put, kvDel_noop (kvGet_none_ne hg), kvSum_congr (g := fun i => (D.flAt i).data.size)]
  · simp [List.getD, Dk.used, Nat.add_comm]
  · intro p hp
    have := h.fol p hp
    simp [List.getD, Dk.flAt, List.getElem?_append_left this]

/-- a file that is safe whole is left whole -/
theorem keepN_safe (D : Dk) (ks : List Int) (i id : Nat) (h : (D.flAt id).safe = (D.flAt id).data.size) : D.keepN ks i id = (D.flAt id).data.size := by
  unfold Dk.keepN
  rw [h, Nat.sub_self]
  have := Int.emod_one (sayI ks (D.steps.length + i))
  rw [show ((0 + 1 : Nat) : Int) = 1 from rfl, this]; rfl
theorem extract_all (s : ByteArray) : s.extract 0 s.size = s := by
  apply ByteArray.ext
  simp
theorem leftFile_safe (D : Dk) (ks : List Int) (i id : Nat) (name : ByteArray) (hg : kvGet (D.left ks) name = some id) (h : (D.flAt id).safe = (D.flAt id).data.size) : D.leftFile ks i name = ⟨(D.flAt id).data, (D.flAt id).data.size⟩ := by
  unfold Dk.leftFile
  rw [hg]
  show (⟨(D.flAt id).data.extract 0 (D.keepN ks i id), D.keepN ks i id⟩ : Fl) = _
  rw [keepN_safe D ks i id h, extract_all]
theorem kvPut_get {α : Type} (l : List (ByteArray × α)) (k : ByteArray) (v : α) (ha : kvApart l) : kvGet (kvPut l k v) k = some v :=
  kvGet_of_mem (kvApart_put k v ha) ((kvPut_perm l k v).mem_iff.2 (by simp))
theorem kvPut_get_other {α : Type} (l : List (ByteArray × α)) (k q : ByteArray) (v u : α) (ha : kvApart l) (hq : k ≠ q) (hg : kvGet l k = some u) : kvGet (kvPut l q v) k = some u :=
  kvGet_of_mem (kvApart_put q v ha) ((kvPut_perm l q v).mem_iff.2 (List.mem_cons_of_mem _ (List.mem_filter.2 ⟨kvGet_mem hg, by simpa using hq⟩)))
/-- the new folder has each name that is left, with its place -/
theorem newFolder_get (D : Dk) (ks : List Int) (hn : (D.leftNames ks).Nodup) (k : Nat) (hk : k ≤ (D.leftNames ks).length) : ∀ i (h : i < k), kvGet (D.newFolder ks k) ((D.leftNames ks)[i]'(by omega)) = some i := by
  induction k with
  | zero => intro i h; omega
  | succ k ih =>
    intro i h
    unfold Dk.newFolder
    have e : (D.leftNames ks).getD k ByteArray.empty = (D.leftNames ks)[k]'(by omega) := by rw [List.getD, List.getElem?_eq_getElem (by omega)]; rfl
    rw [e]
    by_cases hi : i = k
    · subst hi
      exact kvPut_get _ _ _ (newFolder_apart D ks i)
    · refine kvPut_get_other _ _ _ _ _ (newFolder_apart D ks k) ?_ (ih (by omega) i (by omega))
      intro e2
      exact List.pairwise_iff_getElem.1 hn i k (by omega) (by omega) (by omega) e2
theorem kvNames_has {α : Type} {l : List (ByteArray × α)} {s : ByteArray} {v : α} (h : (s, v) ∈ l) : s ∈ kvNames l := by
  unfold kvNames
  refine List.mem_map.2 ⟨s.data.toList, (List.mergeSort_perm _ _).mem_iff.2 (List.mem_map.2 ⟨_, h, rfl⟩), ?_⟩
  exact ByteArray.ext (by simp [kvNames.strM])
/-- what is read behind a crash -/
theorem crash_read (D : Dk) (ks : List Int) (name : ByteArray) (id : Nat) (ha : kvApart (D.left ks)) (hg : kvGet (D.left ks) name = some id) :
    ∃ i, i < (D.leftNames ks).length ∧ (D.leftNames ks).getD i ByteArray.empty = name ∧ kvGet (D.crash ks).folder name = some i ∧ (D.crash ks).read name = ((D.flAt id).data.extract 0 (D.keepN ks i id), 0) ∧ D.leftFile ks i name = ⟨(D.flAt id).data.extract 0 (D.keepN ks i id), D.keepN ks i id⟩ := by
  have hm : name ∈ D.leftNames ks := kvNames_has (kvGet_mem hg)
  obtain ⟨i, hi, e⟩ := List.getElem_of_mem hm
  have hf := newFolder_get D ks (kvNames_nodup ha) _ (Nat.le_refl _) i hi
  rw [e] at hf
  have e2 : (D.leftNames ks).getD i ByteArray.empty = name := by rw [List.getD, List.getElem?_eq_getElem hi]; exact e
  have hl : D.leftFile ks i name = ⟨(D.flAt id).data.extract 0 (D.keepN ks i id), D.keepN ks i id⟩ := by unfold Dk.leftFile; rw [hg]; rfl
  refine ⟨i, hi, e2, hf, ?_, hl⟩
  unfold Dk.read
  have hd : (D.crash ks).dead = false := rfl
  rw [hd]
  have hf' : kvGet (D.crash ks).folder name = some i := hf
  rw [if_neg (by simp), hf']
  show (((D.crash ks).flAt i).data, (0 : Int)) = _
  rw [crash_flAt D ks i hi]
  unfold Dk.newFl
  rw [e2, hl]

/-- a file that was safe whole is read whole behind a crash -/
theorem crash_whole (D : Dk) (ks : List Int) (name : ByteArray) (id : Nat) (ha : kvApart (D.left ks)) (hg : kvGet (D.left ks) name = some id) (h : (D.flAt id).safe = (D.flAt id).data.size) :
    (D.crash ks).read name = ((D.flAt id).data, 0) ∧ (D.flAt id).data.size ≤ (D.crash ks).used := by
  obtain ⟨i, hi, e, hf, hr, hl⟩ := crash_read D ks name id ha hg
  rw [keepN_safe D ks i id h, extract_all] at hr hl
  refine ⟨hr, ?_⟩
  have hu := used_ge hf (newFolder_apart D ks _)
  rw [crash_flAt D ks i hi] at hu
  unfold Dk.newFl at hu
  rw [e, hl] at hu
  exact hu
theorem left_names {D : Dk} (n : ByteArray) (h1 : ∀ p ∈ D.sure, p.1 ≠ n) (h2 : ∀ s ∈ D.steps, s.src ≠ n ∧ s.dst ≠ n) (ks : List Int) : ∀ j, ∀ p ∈ D.leftAt ks j, p.1 ≠ n := by
  intro j
  induction j with
  | zero => exact h1
  | succ j ih =>
    unfold Dk.leftAt
    split
    · exact ih
    · next s hs =>
      have hss := h2 s (List.mem_of_getElem? hs)
      intro p hp
      unfold leftStep at hp
      split at hp
      · exact ih p hp
      · split at hp
        · rcases kvPut_mem hp with rfl | hp
          · exact hss.1
          · exact ih p hp
        · split at hp
          · rcases kvPut_mem hp with rfl | hp
            · exact hss.2
            · exact ih p (kvDel_mem hp)
          · split at hp
            · exact ih p (kvDel_mem hp)
            · exact ih p hp
theorem newFolder_names (D : Dk) (ks : List Int) (j : Nat) (hj : j ≤ (D.leftNames ks).length) : ∀ p ∈ D.newFolder ks j, p.1 ∈ D.leftNames ks := by
  induction j with
  | zero => intro p hp; simp [Dk.newFolder] at hp
  | succ j ih =>
    intro p hp
    unfold Dk.newFolder at hp
    rcases kvPut_mem hp with rfl | hp
    · rw [List.getD, List.getElem?_eq_getElem (by omega)]
      exact List.getElem_mem _
    · exact ih (by omega) p hp
end Go.Proofs.YtpeepdkeicgkiaaGreatDoor
namespace Go.Proofs.YtpeepdkeicgkiaaGreatDoor
set_option linter.unusedVariables false
set_option linter.unusedSimpArgs false
set_option linter.unusedSectionVars false
open Go.RowKit Go.Maps

def tmpN : ByteArray := ⟨#[116, 109, 112]⟩
def Dk.pub4 (D : Dk) (name : ByteArray) : Dk × Int := if (D.rename tmpN name).2 ≠ 0 then D.rename tmpN name else (D.rename tmpN name).1.settle
def Dk.pub3 (D : Dk) (name : ByteArray) : Dk × Int := if (D.sync tmpN).2 ≠ 0 then D.sync tmpN else (D.sync tmpN).1.pub4 name
def Dk.pub2 (D : Dk) (name data : ByteArray) : Dk × Int := if (D.append tmpN data).2 ≠ 0 then D.append tmpN data else (D.append tmpN data).1.pub3 name
def Dk.pub1 (D : Dk) (name data : ByteArray) : Dk × Int := if (D.remove tmpN).2 ≠ 0 ∧ (D.remove tmpN).2 ≠ 7 then D.remove tmpN else (D.remove tmpN).1.pub2 name data
/-- what Publish makes of a disk, its answer -/
def Dk.publish (D : Dk) (name data : ByteArray) : Dk × Int :=
  if (D.read name).2 = 10 then (D, 10) else
  if (D.read name).2 = 0 ∧ (D.read name).1 = data then (if (D.sync name).2 ≠ 0 then D.sync name else (D.sync name).1.settle)
  else D.pub1 name data
theorem DkPost.call {P : Program} {f : FuncId} {args : Array Value} {b : Nat} {L : Lay} {D D' : Dk} {w w1 : World} {r : Value} (h : DkPost b L D w w1)
    (hc : ∀ L1, DiskAt w1 b D L1 → Calls P f args w1 fun e w' => e = .returned r ∧ DkPost b L1 D' w1 w') : Calls P f args w1 fun e w' => e = .returned r ∧ DkPost b L D' w w' := by
  obtain ⟨L1, h1, h2, h3⟩ := h
  exact (hc L1 h1).mono fun _ _ ⟨q1, q2⟩ => ⟨q1, DkPost.trans h2 h3 q2⟩
end Go.Proofs.YtpeepdkeicgkiaaGreatDoor
