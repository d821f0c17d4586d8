/- A tree's nodes: the document's Check. -/
import Derived.Test.YtaoejgnfoecpfaaDoorNi
import Derived.Test.YtaoejgnfoecpfaaDoorQb
import Derived.Test.YtaoejgnfoecpfaaDoorRm
namespace Go.Proofs.YtaoejgnfoecpfaaDoor
open Go.RowKit

/-- a row of records -/
def RecsA (w : World) (A : Option Addr) (l : List Nr) : Prop := 0 < l.length → ∃ g o, A = some ⟨g, o, none⟩ ∧ g < w.heap.size ∧ ∀ (i : Nat) (x : Nr), l[i]? = some x → ∃ B c, (∀ (j : Nat) (u : Value), (recC x B c)[j]? = some u → w.cell? ⟨g, o + i * 7 + j, none⟩ = some u) ∧ StrsA w w.heap.size B x.chunks
theorem RecsA.below {w w' : World} {A : Option Addr} {l : List Nr} (h : RecsA w A l) (hb : Below w.heap.size w w') : RecsA w' A l := fun hl => by
  obtain ⟨g, o, rfl, hg, hc⟩ := h hl
  refine ⟨g, o, rfl, Nat.lt_of_lt_of_le hg hb.size, fun i x hi => ?_⟩
  obtain ⟨B, c, h1, h2⟩ := hc i x hi
  exact ⟨B, c, fun j u hj => (hb.cell (p := ⟨g, o + i * 7 + j, none⟩) hg).trans (h1 j u hj), h2.below hb⟩
theorem txt_eqb (a b : ByteArray) : (a.toList == b.toList) = decide (a = b) := by
  rw [Bool.eq_iff_iff, beq_iff_eq, decide_eq_true_eq]
  constructor
  · intro h
    rw [ba_toList, ba_toList] at h
    exact ba_inj h
  · rintro rfl; rfl
theorem there_snoc (l : List Nr) (k : Nat) (h : k < l.length) (p : ByteArray) : thereN (l.take (k + 1)) p = (thereN (l.take k) p || (decide (l[k].kind = 1) && decide (l[k].at_ = p))) := by
  unfold thereN
  rw [List.take_succ_eq_append_getElem h, List.any_append, Bool.or_assoc]
  simp
theorem int_eqb (a : Int) (b : Int) : (a == b) = decide (a = b) := by
  rw [Bool.eq_iff_iff, beq_iff_eq, decide_eq_true_eq]
set_option maxRecDepth 100000 in
set_option maxHeartbeats 6400000 in
theorem rcheck_any (l : List Nr) (A : Option Addr) (c : Nat) (w : World) (hn : RecsA w A l) (hb : ∀ x ∈ l, NrB x) (hp : ∀ x ∈ l, x.at_.size ≤ 1000000) (hl : l.length ≤ 9223372036854775807) (hc : l.length ≤ c) :
    Calls Tryd.prog 47 #[.slice A l.length c] w fun e w' => e = .returned (.int .i64 (chkN l : Nat)) ∧ Below w.heap.size w w' := by
  have HN := Lib.hid fun W (hb : Below w.heap.size w W) => hn.below hb
  have HB := Lib.hid hb
  have HP := Lib.hid hp
  clear hn hb hp
  by_cases h2 : 200 < l.length
  · have HC := Lib.hid (show chkN l = 2 from if_pos h2)
    have hq : (200 : Int) < (l.length : Int) := by omega
    clear h2
    go_enter Tryd.func47, Tryd.ntmps47
    go_wp2
    go_ret
    exact ⟨ret_int (by rw [HC.out]; rfl), Below.refl _ _⟩
  · have HC := Lib.hid (show chkN l = goN [] l from if_neg h2)
    have hq : ¬ (200 : Int) < (l.length : Int) := by omega
    go_enter Tryd.func47, Tryd.ntmps47
    go_wp2
    go_loopw [15] (fun i wr => ∃ k : Nat, i = .int .i64 k ∧ k ≤ l.length ∧ goN (l.take k) (l.drop k) = goN [] l ∧ (∀ y ∈ l.take k, fitN y = 0) ∧ Below w.heap.size w wr) (fun i _ => l.length - (intOf i).toNat)
    case atStart => exact ⟨0, rfl, Nat.zero_le _, rfl, (fun y hy => by simp at hy), Below.refl _ _⟩
    case round =>
      obtain ⟨k, rfl, hk, hgo, hfit, hbel⟩ := hrel
      have HBL := Lib.hid hbel
      by_cases hkl : k < l.length
      · have hdr : l.drop k = l[k] :: l.drop (k + 1) := List.drop_eq_getElem_cons hkl
        rw [hdr] at hgo
        have HGO := Lib.hid (HC.out.trans hgo.symm)
        have HTK := Lib.hid (List.take_succ_eq_append_getElem hkl)
        obtain ⟨g, o, rfl, hg, hcc⟩ := HN.out wr hbel (by omega)
        obtain ⟨B, cb, hck, hst⟩ := hcc k l[k] (List.getElem?_eq_getElem hkl)
        have HCC := Lib.hid hcc
        have hbk := HB.out _ (List.getElem_mem hkl)
        have hpk := HP.out _ (List.getElem_mem hkl)
        have HFT := Lib.hid hfit
        have HPR := Lib.hid fun (m : Nat) (hm : k = m + 1) => (show l[m]? = some (l[m]'(by omega)) from List.getElem?_eq_getElem (by omega))
        have HPZ := Lib.hid fun (m : Nat) (hm : k = m + 1) => (HP.out (l[m]'(by omega)) (List.getElem_mem _))
        have HLA := Lib.hid fun (m : Nat) (hm : k = m + 1) => (by subst hm; exact take_last (by omega) : (l.take k).getLast? = some (l[m]'(by omega)))
        have HGN := Lib.hid (@goN_step (l.take k) (l.drop (k + 1)) l[k])
        have HGS := Lib.hid (@goN_stop (l.take k) (l.drop (k + 1)) l[k])
        clear hcc hdr hgo hfit hbel
        generalize l[k] = x at *
        have HFI := Lib.hid fun W h => rfit_any x B cb W h hpk hbk.tg hbk.ch
        have q0 : wr.cell? ⟨g, o + k * 7, none⟩ = some (.int .i64 x.kind) := hck 0 _ rfl
        have q1 : wr.cell? ⟨g, o + k * 7 + 1, none⟩ = some (.string x.at_) := hck 1 _ rfl
        have q2 : wr.cell? ⟨g, o + k * 7 + 2, none⟩ = some (.int .i64 x.mode) := hck 2 _ rfl
        have q3 : wr.cell? ⟨g, o + k * 7 + 3, none⟩ = some (.int .i64 x.time) := hck 3 _ rfl
        have q4 : wr.cell? ⟨g, o + k * 7 + 4, none⟩ = some (.int .i64 x.size) := hck 4 _ rfl
        have q5 : wr.cell? ⟨g, o + k * 7 + 5, none⟩ = some (.slice B x.chunks.length cb) := hck 5 _ rfl
        have q6 : wr.cell? ⟨g, o + k * 7 + 6, none⟩ = some (.string x.target) := hck 6 _ rfl
        have hk0 : (0 : Int) ≤ (k : Int) := by omega
        have hki : (k : Int) < (l.length : Int) := by omega
        have hk3 : ((k : Int)).toNat = k := by omega
        have HPX := Lib.hid hpk
        clear hck hbk hpk
        go_upto_region 6 with fail
        have hba := (Below.refl wr.heap.size wr).alloc (Nat.le_refl _) (.cells (recC x B cb) 72)
        have HKA := Lib.hid (Blk.new wr 72 (recC x B cb))
        have HSA := Lib.hid (hst.below hba)
        have HBA := Lib.hid (HBL.out.trans (hba.mono HBL.out.size))
        have HWA := Lib.hid hba
        clear hst hba q0 q1 q2 q3 q4 q5 q6
        unfold recC at HKA HSA HBA HWA HFI
        generalize wr.alloc (.cells #[.int .i64 x.kind, .string x.at_, .int .i64 x.mode, .int .i64 x.time, .int .i64 x.size, .slice B x.chunks.length cb, .string x.target] 72) = wa at *
        obtain ⟨⟨c0, c1, c2, c3, c4, c5, c6⟩, _⟩ := blk7' HKA.out
        go_wp2_with fail
        refine (HFI.out _ HSA.out).mono ?_
        rintro e w2 ⟨rfl, hb2⟩
        have HB2 := Lib.hid (HBA.out.trans (hb2.mono HBA.out.size))
        have HK2 := Lib.hid (HKA.out.below hb2 HKA.out.lt)
        have HW2 := Lib.hid (HWA.out.trans (hb2.mono HWA.out.size))
        clear hb2 c0 c1 c2 c3 c4 c5 c6
        by_cases hfx : fitN x = 0
        · have hne : (((fitN x : Nat) : Int) != 0) = false := by rw [hfx]; rfl
          have HPP := Lib.hid fun W => refparent_any x.at_ W HPX.out
          have HSF := Lib.hid fun (h : l.take k = []) => (by rw [h]; exact stepN_first hfx : stepN (l.take k) x = if thereN [] (parentP x.at_) = false then 7 else 0)
          have HSN := Lib.hid fun y (hy : (l.take k).getLast? = some y) => stepN_next hy hfx
          have k1 : w2.cell? ⟨wr.heap.size, 1, none⟩ = some (.string x.at_) := HK2.out.cell 1
          go_upto_region 9 with fail
          go_cut [38] (fun v wc => ∃ bb : Bool, v = .bool bb ∧ (bb = true → stepN (l.take k) x = 4) ∧ (bb = false → stepN (l.take k) x = if thereN (l.take k) (parentP x.at_) = false then 7 else 0) ∧ Below w2.heap.size w2 wc)
          case first =>
            by_cases hk00 : k = 0
            · have hq0 : ¬ (0 : Int) < (k : Int) := by omega
              have hq0d : decide (0 < k) = false := decide_eq_false (by omega)
              have HS0 := Lib.hid (show stepN (l.take k) x = if thereN (l.take k) (parentP x.at_) = false then 7 else 0 by
                have h0 : l.take k = [] := by rw [hk00]; rfl
                rw [HSF.out h0, h0])
              have HCM := Lib.hid fun W => refcompare_any noB noB W (by decide) (by decide)
              have HCL := Lib.hid fun W (hW : Below w2.heap.size w2 W) => (show W.cell? ⟨wr.heap.size, 1, none⟩ = some (.string x.at_) ∧ True from ⟨(HK2.out.below hW HK2.out.lt).cell 1, trivial⟩)
              clear hk00
              refine wp_region_below (by kernel_rfl) (by kernel_rfl) ?_
              repeat
                first
                  | go_big_quiet_skip
                  | (go_big_quiet_want
                     go_big_quiet_op
                     first
                       | go_big_quiet_on
                       | (refine ⟨_, fun _ _ => rfl, ?_⟩; go_big_quiet_on)
                       | (apply Exists.intro
                          refine ⟨fun W hW => ?_, ?_⟩
                          first
                            | (go_at_call 85; refine (HCM.out W).mono ?_; rintro e w8 ⟨rfl, hb8⟩; exact ⟨rfl, hW.trans (hb8.mono hW.size)⟩)
                            | (obtain ⟨g0, g1⟩ := HCL.out W hW; go_simp; done)
                            | (obtain ⟨g0, g1⟩ := HCL.out W hW; go_simp; rfl)
                          go_big_quiet_on))
              refine wpQuiet_nil ?_
              intro w3 hb3
              go_wp2
              go_meet
              exact ⟨false, rfl, (fun h => by cases h), fun _ => HS0.out, hb3⟩
            · obtain ⟨m, hm⟩ : ∃ m, k = m + 1 := ⟨k - 1, by omega⟩
              have hq0 : (0 : Int) < (k : Int) := by omega
              have hq0d : decide (0 < k) = true := decide_eq_true (by omega)
              have hq1 : (k : Int) - 1 = (m : Int) := by omega
              have hq2 : (0 : Int) ≤ (m : Int) := by omega
              have hq3 : (m : Int) < (l.length : Int) := by omega
              have hq4 : ((m : Int)).toNat = m := by omega
              have hpr := HPR.out m hm
              have hla := HLA.out m hm
              have hpz := HPZ.out m hm
              clear hk00 HPR HLA HPZ
              generalize l[m]'(by omega) = y at *
              obtain ⟨By, cy, hcy, _⟩ := HCC.out m y hpr
              have hy1 := hcy 1 (.string y.at_) rfl
              have HCM := Lib.hid fun W => refcompare_any y.at_ x.at_ W hpz HPX.out
              have HCL := Lib.hid fun W (hW : Below w2.heap.size w2 W) => (show W.cell? ⟨wr.heap.size, 1, none⟩ = some (.string x.at_) ∧ W.cell? ⟨g, o + m * 7 + 1, none⟩ = some (.string y.at_) from ⟨(HK2.out.below hW HK2.out.lt).cell 1, ((HW2.out.trans (hW.mono HW2.out.size)).cell (p := ⟨g, o + m * 7 + 1, none⟩) hg).trans hy1⟩)
              have HNX := Lib.hid (HSN.out y hla)
              have h3 := cmpL_three (partsP y.at_) (partsP x.at_)
              generalize cmpL (partsP y.at_) (partsP x.at_) = cv at *
              clear hcy hy1 hpr hla hpz hm
              rcases h3 with rfl | rfl | rfl
              all_goals
                refine wp_region_below (by kernel_rfl) (by kernel_rfl) ?_
                repeat
                  first
                    | go_big_quiet_skip
                    | (go_big_quiet_want
                       go_big_quiet_op
                       first
                         | go_big_quiet_on
                         | (refine ⟨_, fun _ _ => rfl, ?_⟩; go_big_quiet_on)
                         | (apply Exists.intro
                            refine ⟨fun W hW => ?_, ?_⟩
                            first
                              | (go_at_call 85; refine (HCM.out W).mono ?_; rintro e w8 ⟨rfl, hb8⟩; exact ⟨rfl, hW.trans (hb8.mono hW.size)⟩)
                              | (obtain ⟨g0, g1⟩ := HCL.out W hW; go_simp; done)
                              | (obtain ⟨g0, g1⟩ := HCL.out W hW; go_simp; rfl)
                            go_big_quiet_on))
                refine wpQuiet_nil ?_
                intro w3 hb3
                go_wp2
                go_meet
              · exact ⟨false, rfl, (fun h => by cases h), (fun _ => HNX.out.trans (if_neg (by simp))), hb3⟩
              · exact ⟨true, rfl, (fun _ => HNX.out.trans (if_pos (by decide))), (fun h => by cases h), hb3⟩
              · exact ⟨true, rfl, (fun _ => HNX.out.trans (if_pos (by decide))), (fun h => by cases h), hb3⟩
          case rest =>
            obtain ⟨bb, rfl, hb4, hb0, hb3⟩ := hcut
            have HB3 := Lib.hid (HB2.out.trans (hb3.mono HB2.out.size))
            have HK3 := Lib.hid (HK2.out.below hb3 HK2.out.lt)
            have HW3 := Lib.hid (HW2.out.trans (hb3.mono HW2.out.size))
            have HS4 := Lib.hid hb4
            have HS0 := Lib.hid hb0
            clear hb3 hb4 hb0 HB2 HK2 HW2 HSF HSN k1
            cases bb with
            | true =>
              have HX := Lib.hid (show chkN l = 4 by rw [HGO.out, HGS.out (by rw [HS4.out rfl]; decide), HS4.out rfl])
              go_wp2
              go_ret
              exact ⟨ret_int (by rw [HX.out]; rfl), HB3.out⟩
            | false =>
              have HS := Lib.hid (HS0.out rfl)
              have k1 : wc.cell? ⟨wr.heap.size, 1, none⟩ = some (.string x.at_) := HK3.out.cell 1
              have HCT := Lib.hid fun (j : Nat) (y : Nr) (hj : l[j]? = some y) => HCC.out j y hj
              have HSNC := Lib.hid (there_snoc l)
              have HTH0 := Lib.hid (show ((parentP x.at_).toList.isEmpty) = thereN (l.take 0) (parentP x.at_) by
                rw [toList_isEmpty]
                unfold thereN
                rw [List.take_zero, List.any_nil, Bool.or_false])
              clear HS0 HS4
              have hkc : (k : Int) ≤ (c : Int) := by omega
              have hkc2 : k ≤ c := by omega
              generalize parentP x.at_ = pp at *
              go_wp2_with fail
              refine (HPP.out _).mono ?_
              rintro e w5 ⟨rfl, rfl⟩
              obtain ⟨tb0, htb0⟩ : ∃ tb0, pp.toList.isEmpty = tb0 := ⟨_, rfl⟩
              have HT0 := Lib.hid (htb0.symm.trans HTH0.out)
              go_wp2
              obtain ⟨wo, rfl⟩ : ∃ wo : World, wo = wr := ⟨_, rfl⟩
              go_loopw [7, 48] (fun tv jv wi => ∃ j : Nat, tv = .bool (thereN (l.take j) pp) ∧ jv = .int .i64 (j : Nat) ∧ j ≤ k ∧ Below wc.heap.size wc wi) (fun _ jv _ => k - (intOf jv).toNat)
              case atStart => exact ⟨0, by rw [← HT0.out], rfl, Nat.zero_le _, Below.refl _ _⟩
              case round =>
                obtain ⟨j, rfl, rfl, hj, hbi⟩ := hrel
                have HBI := Lib.hid hbi
                clear hbi
                by_cases hjk : j < k
                · have hjl : j < l.length := by omega
                  obtain ⟨By, cy, hcy, _⟩ := HCT.out j l[j] (List.getElem?_eq_getElem hjl)
                  have HCY := Lib.hid fun (i : Nat) (u : Value) (hi : (recC l[j] By cy)[i]? = some u) => ((HW3.out.trans (HBI.out.mono HW3.out.size)).cell (p := ⟨g, o + j * 7 + i, none⟩) hg).trans (hcy i u hi)
                  have hsn := HSNC.out j hjl pp
                  have heq := txt_eqb l[j].at_ pp
                  have hke := int_eqb l[j].kind 1
                  clear hcy
                  generalize decide (l[j].at_ = pp) = da at *
                  generalize decide (l[j].kind = 1) = dk at *
                  generalize l[j] = y at *
                  have HSX := Lib.hid hsn
                  clear hsn
                  have q0 : wr.cell? ⟨g, o + j * 7, none⟩ = some (.int .i64 y.kind) := HCY.out 0 _ rfl
                  have q1 : wr.cell? ⟨g, o + j * 7 + 1, none⟩ = some (.string y.at_) := HCY.out 1 _ rfl
                  have q2 : wr.cell? ⟨g, o + j * 7 + 2, none⟩ = some (.int .i64 y.mode) := HCY.out 2 _ rfl
                  have q3 : wr.cell? ⟨g, o + j * 7 + 3, none⟩ = some (.int .i64 y.time) := HCY.out 3 _ rfl
                  have q4 : wr.cell? ⟨g, o + j * 7 + 4, none⟩ = some (.int .i64 y.size) := HCY.out 4 _ rfl
                  have q5 : wr.cell? ⟨g, o + j * 7 + 5, none⟩ = some (.slice By y.chunks.length cy) := HCY.out 5 _ rfl
                  have q6 : wr.cell? ⟨g, o + j * 7 + 6, none⟩ = some (.string y.target) := HCY.out 6 _ rfl
                  have hj0 : (0 : Int) ≤ (j : Int) := by omega
                  have hj1 : (j : Int) < (k : Int) := by omega
                  have hj3 : ((j : Int)).toNat = j := by omega
                  have HBJ := Lib.hid (HBI.out.alloc HBI.out.size (.cells #[.int .i64 y.kind, .string y.at_, .int .i64 y.mode, .int .i64 y.time, .int .i64 y.size, .slice By y.chunks.length cy, .string y.target] 72))
                  generalize thereN (l.take j) pp = tb at *
                  cases tb with
                  | true =>
                    go_wp2
                    go_roundw
                    case rel => exact ⟨j + 1, by rw [HSX.out]; rfl, by go_num, by omega, HBJ.out⟩
                    case measure => simp [intOf]; omega
                  | false =>
                    cases dk with
                    | false =>
                      go_wp2
                      go_roundw
                      case rel => exact ⟨j + 1, by rw [HSX.out]; rfl, by go_num, by omega, HBJ.out⟩
                      case measure => simp [intOf]; omega
                    | true =>
                      go_wp2
                      go_roundw
                      case rel => exact ⟨j + 1, by rw [HSX.out]; rfl, by go_num, by omega, HBJ.out⟩
                      case measure => simp [intOf]; omega
                · obtain rfl : j = k := by omega
                  have HB5 := Lib.hid (HB3.out.trans (HBI.out.mono HB3.out.size))
                  cases hth : thereN (l.take j) pp with
                  | false =>
                    have HX := Lib.hid (show chkN l = 7 by
                      have h7 : stepN (l.take j) x = 7 := HS.out.trans (if_pos hth)
                      rw [HGO.out, HGS.out (by rw [h7]; decide), h7])
                    clear hth
                    go_wp2
                    go_ret
                    exact ⟨ret_int (by rw [HX.out]; rfl), HB5.out⟩
                  | true =>
                    have HG1 := Lib.hid (HGN.out (HS.out.trans (if_neg (by rw [hth]; simp))))
                    have HF0 := Lib.hid (show ∀ y ∈ l.take (j + 1), fitN y = 0 from fun y hy => by
                      rw [HTK.out, List.mem_append, List.mem_singleton] at hy
                      rcases hy with hy | rfl
                      · exact HFT.out y hy
                      · exact hfx)
                    clear hth
                    go_wp2
                    go_roundw
                    case rel => exact ⟨j + 1, by go_num, by omega, by rw [HTK.out, ← HG1.out, HGO.out.symm]; exact HC.out, HF0.out, HB5.out⟩
                    case measure => simp [intOf]; omega
        · have hne : (((fitN x : Nat) : Int) != 0) = true := by rw [bne_iff_ne]; omega
          have HX := Lib.hid (show chkN l = fitN x by rw [HGO.out, HGS.out (by rw [stepN_fit hfx]; exact hfx), stepN_fit hfx])
          clear hfx
          go_wp2
          go_ret
          exact ⟨ret_int (by rw [HX.out]), HB2.out⟩
      · obtain rfl : k = l.length := by omega
        rw [List.drop_length] at hgo
        have HX := Lib.hid (show chkN l = 0 from HC.out.trans hgo.symm)
        clear hgo hfit
        go_wp2
        go_ret
        exact ⟨ret_int (by rw [HX.out]; rfl), HBL.out⟩
end Go.Proofs.YtaoejgnfoecpfaaDoor
