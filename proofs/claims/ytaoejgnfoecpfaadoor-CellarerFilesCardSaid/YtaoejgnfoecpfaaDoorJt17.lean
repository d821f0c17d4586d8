/- A tree's nodes: the document's Check. A tree's nodes: the document's Read. A tree's nodes: are two lists of records the same?. -/
import Derived.Test.YtaoejgnfoecpfaaDoorJt16
import Derived.Test.YtaoejgnfoecpfaaDoorJt2
import Derived.Test.YtaoejgnfoecpfaaDoorJt6
namespace Go.Proofs.YtaoejgnfoecpfaaDoor
set_option linter.unusedVariables false
set_option linter.unusedSimpArgs false
set_option linter.unusedSectionVars false
open Go.RowKit

/-- a row of records -/
def RecsA (w : World) (A : Option Addr) (l : List Nr) : Prop := 0 < l.length → ∃ g o, A = some ⟨g, o, none⟩ ∧ g < w.heap.size ∧ ∀ (i : Nat) (x : Nr), l[i]? = some x → ∃ B c, (∀ (j : Nat) (u : Value), (recC x B c)[j]? = some u → w.cell? ⟨g, o + i * 7 + j, none⟩ = some u) ∧ StrsA w w.heap.size B x.chunks
theorem RecsA.below {w w' : World} {A : Option Addr} {l : List Nr} (h : RecsA w A l) (hb : Below w.heap.size w w') : RecsA w' A l := fun hl => by
  obtain ⟨g, o, rfl, hg, hc⟩ := h hl
  refine ⟨g, o, rfl, Nat.lt_of_lt_of_le hg hb.size, fun i x hi => ?_⟩
  obtain ⟨B, c, h1, h2⟩ := hc i x hi
  exact ⟨B, c, fun j u hj => (hb.cell (p := ⟨g, o + i * 7 + j, none⟩) hg).trans (h1 j u hj), h2.below hb⟩
theorem txt_eqb (a b : ByteArray) : (a.toList == b.toList) = decide (a = b) := by
  rw [Bool.eq_iff_iff, beq_iff_eq, decide_eq_true_eq]
  constructor
  · intro h
    rw [ba_toList, ba_toList] at h
    exact ba_inj h
  · rintro rfl; rfl
theorem there_snoc (l : List Nr) (k : Nat) (h : k < l.length) (p : ByteArray) : thereN (l.take (k + 1)) p = (thereN (l.take k) p || (decide (l[k].kind = 1) && decide (l[k].at_ = p))) := by
  unfold thereN
  rw [List.take_succ_eq_append_getElem h, List.any_append, Bool.or_assoc]
  simp
theorem int_eqb (a : Int) (b : Int) : (a == b) = decide (a = b) := by
  rw [Bool.eq_iff_iff, beq_iff_eq, decide_eq_true_eq]
set_option maxRecDepth 100000 in
set_option maxHeartbeats 6400000 in
theorem rcheck_any (l : List Nr) (A : Option Addr) (c : Nat) (w : World) (hn : RecsA w A l) (hb : ∀ x ∈ l, NrB x) (hp : ∀ x ∈ l, x.at_.size ≤ 1000000) (hl : l.length ≤ 9223372036854775807) (hc : l.length ≤ c) :
    Calls Tryd.prog 47 #[.slice A l.length c] w fun e w' => e = .returned (.int .i64 (chkN l : Nat)) ∧ Below w.heap.size w w' := by
  have HN := Lib.hid fun W (hb : Below w.heap.size w W) => hn.below hb
  have HB := Lib.hid hb
  have HP := Lib.hid hp
  clear hn hb hp
  by_cases h2 : 200 < l.length
  · have HC := Lib.hid (show chkN l = 2 from if_pos h2)
    have hq : (200 : Int) < (l.length : Int) := by omega
    clear h2
    go_enter Tryd.func47, Tryd.ntmps47
    go_wp2
    go_ret
    exact ⟨ret_int (by rw [HC.out]; rfl), Below.refl _ _⟩
  · have HC := Lib.hid (show chkN l = goN [] l from if_neg h2)
    have hq : ¬ (200 : Int) < (l.length : Int) := by omega
    go_enter Tryd.func47, Tryd.ntmps47
    go_wp2
    go_loopw [15] (fun i wr => ∃ k : Nat, i = .int .i64 k ∧ k ≤ l.length ∧ goN (l.take k) (l.drop k) = goN [] l ∧ (∀ y ∈ l.take k, fitN y = 0) ∧ Below w.heap.size w wr) (fun i _ => l.length - (intOf i).toNat)
    case atStart => exact ⟨0, rfl, Nat.zero_le _, rfl, (fun y hy => by simp at hy), Below.refl _ _⟩
    case round =>
      obtain ⟨k, rfl, hk, hgo, hfit, hbel⟩ := hrel
      have HBL := Lib.hid hbel
      by_cases hkl : k < l.length
      · have hdr : l.drop k = l[k] :: l.drop (k + 1) := List.drop_eq_getElem_cons hkl
        rw [hdr] at hgo
        have HGO := Lib.hid (HC.out.trans hgo.symm)
        have HTK := Lib.hid (List.take_succ_eq_append_getElem hkl)
        obtain ⟨g, o, rfl, hg, hcc⟩ := HN.out wr hbel (by omega)
        obtain ⟨B, cb, hck, hst⟩ := hcc k l[k] (List.getElem?_eq_getElem hkl)
        have HCC := Lib.hid hcc
        have hbk := HB.out _ (List.getElem_mem hkl)
        have hpk := HP.out _ (List.getElem_mem hkl)
        have HFT := Lib.hid hfit
        have HPR := Lib.hid fun (m : Nat) (hm : k = m + 1) => (show l[m]? = some (l[m]'(by omega)) from List.getElem?_eq_getElem (by omega))
        have HPZ := Lib.hid fun (m : Nat) (hm : k = m + 1) => (HP.out (l[m]'(by omega)) (List.getElem_mem _))
        have HLA := Lib.hid fun (m : Nat) (hm : k = m + 1) => (by subst hm; exact take_last (by omega) : (l.take k).getLast? = some (l[m]'(by omega)))
        have HGN := Lib.hid (@goN_step (l.take k) (l.drop (k + 1)) l[k])
        have HGS := Lib.hid (@goN_stop (l.take k) (l.drop (k + 1)) l[k])
        clear hcc hdr hgo hfit hbel
        generalize l[k] = x at *
        have HFI := Lib.hid fun W h => rfit_any x B cb W h hpk hbk.tg hbk.ch
        have q0 : wr.cell? ⟨g, o + k * 7, none⟩ = some (.int .i64 x.kind) := hck 0 _ rfl
        have q1 : wr.cell? ⟨g, o + k * 7 + 1, none⟩ = some (.string x.at_) := hck 1 _ rfl
        have q2 : wr.cell? ⟨g, o + k * 7 + 2, none⟩ = some (.int .i64 x.mode) := hck 2 _ rfl
        have q3 : wr.cell? ⟨g, o + k * 7 + 3, none⟩ = some (.int .i64 x.time) := hck 3 _ rfl
        have q4 : wr.cell? ⟨g, o + k * 7 + 4, none⟩ = some (.int .i64 x.size) := hck 4 _ rfl
        have q5 : wr.cell? ⟨g, o + k * 7 + 5, none⟩ = some (.slice B x.chunks.length cb) := hck 5 _ rfl
        have q6 : wr.cell? ⟨g, o + k * 7 + 6, none⟩ = some (.string x.target) := hck 6 _ rfl
        have hk0 : (0 : Int) ≤ (k : Int) := by omega
        have hki : (k : Int) < (l.length : Int) := by omega
        have hk3 : ((k : Int)).toNat = k := by omega
        have HPX := Lib.hid hpk
        clear hck hbk hpk
        go_upto_region 6 with fail
        have hba := (Below.refl wr.heap.size wr).alloc (Nat.le_refl _) (.cells (recC x B cb) 72)
        have HKA := Lib.hid (Blk.new wr 72 (recC x B cb))
        have HSA := Lib.hid (hst.below hba)
        have HBA := Lib.hid (HBL.out.trans (hba.mono HBL.out.size))
        have HWA := Lib.hid hba
        clear hst hba q0 q1 q2 q3 q4 q5 q6
        unfold recC at HKA HSA HBA HWA HFI
        generalize wr.alloc (.cells #[.int .i64 x.kind, .string x.at_, .int .i64 x.mode, .int .i64 x.time, .int .i64 x.size, .slice B x.chunks.length cb, .string x.target] 72) = wa at *
        obtain ⟨⟨c0, c1, c2, c3, c4, c5, c6⟩, _⟩ := blk7' HKA.out
        go_wp2_with fail
        refine (HFI.out _ HSA.out).mono ?_
        rintro e w2 ⟨rfl, hb2⟩
        have HB2 := Lib.hid (HBA.out.trans (hb2.mono HBA.out.size))
        have HK2 := Lib.hid (HKA.out.below hb2 HKA.out.lt)
        have HW2 := Lib.hid (HWA.out.trans (hb2.mono HWA.out.size))
        clear hb2 c0 c1 c2 c3 c4 c5 c6
        by_cases hfx : fitN x = 0
        · have hne : (((fitN x : Nat) : Int) != 0) = false := by rw [hfx]; rfl
          have HPP := Lib.hid fun W => refparent_any x.at_ W HPX.out
          have HSF := Lib.hid fun (h : l.take k = []) => (by rw [h]; exact stepN_first hfx : stepN (l.take k) x = if thereN [] (parentP x.at_) = false then 7 else 0)
          have HSN := Lib.hid fun y (hy : (l.take k).getLast? = some y) => stepN_next hy hfx
          have k1 : w2.cell? ⟨wr.heap.size, 1, none⟩ = some (.string x.at_) := HK2.out.cell 1
          go_upto_region 9 with fail
          go_cut [38] (fun v wc => ∃ bb : Bool, v = .bool bb ∧ (bb = true → stepN (l.take k) x = 4) ∧ (bb = false → stepN (l.take k) x = if thereN (l.take k) (parentP x.at_) = false then 7 else 0) ∧ Below w2.heap.size w2 wc)
          case first =>
            by_cases hk00 : k = 0
            · have hq0 : ¬ (0 : Int) < (k : Int) := by omega
              have hq0d : decide (0 < k) = false := decide_eq_false (by omega)
              have HS0 := Lib.hid (show stepN (l.take k) x = if thereN (l.take k) (parentP x.at_) = false then 7 else 0 by
                have h0 : l.take k = [] := by rw [hk00]; rfl
                rw [HSF.out h0, h0])
              have HCM := Lib.hid fun W => refcompare_any noB noB W (by decide) (by decide)
              have HCL := Lib.hid fun W (hW : Below w2.heap.size w2 W) => (show W.cell? ⟨wr.heap.size, 1, none⟩ = some (.string x.at_) ∧ True from ⟨(HK2.out.below hW HK2.out.lt).cell 1, trivial⟩)
              clear hk00
              refine wp_region_below (by kernel_rfl) (by kernel_rfl) ?_
              repeat
                first
                  | go_big_quiet_skip
                  | (go_big_quiet_want
                     go_big_quiet_op
                     first
                       | go_big_quiet_on
                       | (refine ⟨_, fun _ _ => rfl, ?_⟩; go_big_quiet_on)
                       | (apply Exists.intro
                          refine ⟨fun W hW => ?_, ?_⟩
                          first
                            | (go_at_call 85; refine (HCM.out W).mono ?_; rintro e w8 ⟨rfl, hb8⟩; exact ⟨rfl, hW.trans (hb8.mono hW.size)⟩)
                            | (obtain ⟨g0, g1⟩ := HCL.out W hW; go_simp; done)
                            | (obtain ⟨g0, g1⟩ := HCL.out W hW; go_simp; rfl)
                          go_big_quiet_on))
              refine wpQuiet_nil ?_
              intro w3 hb3
              go_wp2
              go_meet
              exact ⟨false, rfl, (fun h => by cases h), fun _ => HS0.out, hb3⟩
            · obtain ⟨m, hm⟩ : ∃ m, k = m + 1 := ⟨k - 1, by omega⟩
              have hq0 : (0 : Int) < (k : Int) := by omega
              have hq0d : decide (0 < k) = true := decide_eq_true (by omega)
              have hq1 : (k : Int) - 1 = (m : Int) := by omega
              have hq2 : (0 : Int) ≤ (m : Int) := by omega
              have hq3 : (m : Int) < (l.length : Int) := by omega
              have hq4 : ((m : Int)).toNat = m := by omega
              have hpr := HPR.out m hm
              have hla := HLA.out m hm
              have hpz := HPZ.out m hm
              clear hk00 HPR HLA HPZ
              generalize l[m]'(by omega) = y at *
              obtain ⟨By, cy, hcy, _⟩ := HCC.out m y hpr
              have hy1 := hcy 1 (.string y.at_) rfl
              have HCM := Lib.hid fun W => refcompare_any y.at_ x.at_ W hpz HPX.out
              have HCL := Lib.hid fun W (hW : Below w2.heap.size w2 W) => (show W.cell? ⟨wr.heap.size, 1, none⟩ = some (.string x.at_) ∧ W.cell? ⟨g, o + m * 7 + 1, none⟩ = some (.string y.at_) from ⟨(HK2.out.below hW HK2.out.lt).cell 1, ((HW2.out.trans (hW.mono HW2.out.size)).cell (p := ⟨g, o + m * 7 + 1, none⟩) hg).trans hy1⟩)
              have HNX := Lib.hid (HSN.out y hla)
              have h3 := cmpL_three (partsP y.at_) (partsP x.at_)
              generalize cmpL (partsP y.at_) (partsP x.at_) = cv at *
              clear hcy hy1 hpr hla hpz hm
              rcases h3 with rfl | rfl | rfl
              all_goals
                refine wp_region_below (by kernel_rfl) (by kernel_rfl) ?_
                repeat
                  first
                    | go_big_quiet_skip
                    | (go_big_quiet_want
                       go_big_quiet_op
                       first
                         | go_big_quiet_on
                         | (refine ⟨_, fun _ _ => rfl, ?_⟩; go_big_quiet_on)
                         | (apply Exists.intro
                            refine ⟨fun W hW => ?_, ?_⟩
                            first
                              | (go_at_call 85; refine (HCM.out W).mono ?_; rintro e w8 ⟨rfl, hb8⟩; exact ⟨rfl, hW.trans (hb8.mono hW.size)⟩)
                              | (obtain ⟨g0, g1⟩ := HCL.out W hW; go_simp; done)
                              | (obtain ⟨g0, g1⟩ := HCL.out W hW; go_simp; rfl)
                            go_big_quiet_on))
                refine wpQuiet_nil ?_
                intro w3 hb3
                go_wp2
                go_meet
              · exact ⟨false, rfl, (fun h => by cases h), (fun _ => HNX.out.trans (if_neg (by simp))), hb3⟩
              · exact ⟨true, rfl, (fun _ => HNX.out.trans (if_pos (by decide))), (fun h => by cases h), hb3⟩
              · exact ⟨true, rfl, (fun _ => HNX.out.trans (if_pos (by decide))), (fun h => by cases h), hb3⟩
          case rest =>
            obtain ⟨bb, rfl, hb4, hb0, hb3⟩ := hcut
            have HB3 := Lib.hid (HB2.out.trans (hb3.mono HB2.out.size))
            have HK3 := Lib.hid (HK2.out.below hb3 HK2.out.lt)
            have HW3 := Lib.hid (HW2.out.trans (hb3.mono HW2.out.size))
            have HS4 := Lib.hid hb4
            have HS0 := Lib.hid hb0
            clear hb3 hb4 hb0 HB2 HK2 HW2 HSF HSN k1
            cases bb with
            | true =>
              have HX := Lib.hid (show chkN l = 4 by rw [HGO.out, HGS.out (by rw [HS4.out rfl]; decide), HS4.out rfl])
              go_wp2
              go_ret
              exact ⟨ret_int (by rw [HX.out]; rfl), HB3.out⟩
            | false =>
              have HS := Lib.hid (HS0.out rfl)
              have k1 : wc.cell? ⟨wr.heap.size, 1, none⟩ = some (.string x.at_) := HK3.out.cell 1
              have HCT := Lib.hid fun (j : Nat) (y : Nr) (hj : l[j]? = some y) => HCC.out j y hj
              have HSNC := Lib.hid (there_snoc l)
              have HTH0 := Lib.hid (show ((parentP x.at_).toList.isEmpty) = thereN (l.take 0) (parentP x.at_) by
                rw [toList_isEmpty]
                unfold thereN
                rw [List.take_zero, List.any_nil, Bool.or_false])
              clear HS0 HS4
              have hkc : (k : Int) ≤ (c : Int) := by omega
              have hkc2 : k ≤ c := by omega
              generalize parentP x.at_ = pp at *
              go_wp2_with fail
              refine (HPP.out _).mono ?_
              rintro e w5 ⟨rfl, rfl⟩
              obtain ⟨tb0, htb0⟩ : ∃ tb0, pp.toList.isEmpty = tb0 := ⟨_, rfl⟩
              have HT0 := Lib.hid (htb0.symm.trans HTH0.out)
              go_wp2
              obtain ⟨wo, rfl⟩ : ∃ wo : World, wo = wr := ⟨_, rfl⟩
              go_loopw [7, 48] (fun tv jv wi => ∃ j : Nat, tv = .bool (thereN (l.take j) pp) ∧ jv = .int .i64 (j : Nat) ∧ j ≤ k ∧ Below wc.heap.size wc wi) (fun _ jv _ => k - (intOf jv).toNat)
              case atStart => exact ⟨0, by rw [← HT0.out], rfl, Nat.zero_le _, Below.refl _ _⟩
              case round =>
                obtain ⟨j, rfl, rfl, hj, hbi⟩ := hrel
                have HBI := Lib.hid hbi
                clear hbi
                by_cases hjk : j < k
                · have hjl : j < l.length := by omega
                  obtain ⟨By, cy, hcy, _⟩ := HCT.out j l[j] (List.getElem?_eq_getElem hjl)
                  have HCY := Lib.hid fun (i : Nat) (u : Value) (hi : (recC l[j] By cy)[i]? = some u) => ((HW3.out.trans (HBI.out.mono HW3.out.size)).cell (p := ⟨g, o + j * 7 + i, none⟩) hg).trans (hcy i u hi)
                  have hsn := HSNC.out j hjl pp
                  have heq := txt_eqb l[j].at_ pp
                  have hke := int_eqb l[j].kind 1
                  clear hcy
                  generalize decide (l[j].at_ = pp) = da at *
                  generalize decide (l[j].kind = 1) = dk at *
                  generalize l[j] = y at *
                  have HSX := Lib.hid hsn
                  clear hsn
                  have q0 : wr.cell? ⟨g, o + j * 7, none⟩ = some (.int .i64 y.kind) := HCY.out 0 _ rfl
                  have q1 : wr.cell? ⟨g, o + j * 7 + 1, none⟩ = some (.string y.at_) := HCY.out 1 _ rfl
                  have q2 : wr.cell? ⟨g, o + j * 7 + 2, none⟩ = some (.int .i64 y.mode) := HCY.out 2 _ rfl
                  have q3 : wr.cell? ⟨g, o + j * 7 + 3, none⟩ = some (.int .i64 y.time) := HCY.out 3 _ rfl
                  have q4 : wr.cell? ⟨g, o + j * 7 + 4, none⟩ = some (.int .i64 y.size) := HCY.out 4 _ rfl
                  have q5 : wr.cell? ⟨g, o + j * 7 + 5, none⟩ = some (.slice By y.chunks.length cy) := HCY.out 5 _ rfl
                  have q6 : wr.cell? ⟨g, o + j * 7 + 6, none⟩ = some (.string y.target) := HCY.out 6 _ rfl
                  have hj0 : (0 : Int) ≤ (j : Int) := by omega
                  have hj1 : (j : Int) < (k : Int) := by omega
                  have hj3 : ((j : Int)).toNat = j := by omega
                  have HBJ := Lib.hid (HBI.out.alloc HBI.out.size (.cells #[.int .i64 y.kind, .string y.at_, .int .i64 y.mode, .int .i64 y.time, .int .i64 y.size, .slice By y.chunks.length cy, .string y.target] 72))
                  generalize thereN (l.take j) pp = tb at *
                  cases tb with
                  | true =>
                    go_wp2
                    go_roundw
                    case rel => exact ⟨j + 1, by rw [HSX.out]; rfl, by go_num, by omega, HBJ.out⟩
                    case measure => simp [intOf]; omega
                  | false =>
                    cases dk with
                    | false =>
                      go_wp2
                      go_roundw
                      case rel => exact ⟨j + 1, by rw [HSX.out]; rfl, by go_num, by omega, HBJ.out⟩
                      case measure => simp [intOf]; omega
                    | true =>
                      go_wp2
                      go_roundw
                      case rel => exact ⟨j + 1, by rw [HSX.out]; rfl, by go_num, by omega, HBJ.out⟩
                      case measure => simp [intOf]; omega
                · obtain rfl : j = k := by omega
                  have HB5 := Lib.hid (HB3.out.trans (HBI.out.mono HB3.out.size))
                  cases hth : thereN (l.take j) pp with
                  | false =>
                    have HX := Lib.hid (show chkN l = 7 by
                      have h7 : stepN (l.take j) x = 7 := HS.out.trans (if_pos hth)
                      rw [HGO.out, HGS.out (by rw [h7]; decide), h7])
                    clear hth
                    go_wp2
                    go_ret
                    exact ⟨ret_int (by rw [HX.out]; rfl), HB5.out⟩
                  | true =>
                    have HG1 := Lib.hid (HGN.out (HS.out.trans (if_neg (by rw [hth]; simp))))
                    have HF0 := Lib.hid (show ∀ y ∈ l.take (j + 1), fitN y = 0 from fun y hy => by
                      rw [HTK.out, List.mem_append, List.mem_singleton] at hy
                      rcases hy with hy | rfl
                      · exact HFT.out y hy
                      · exact hfx)
                    clear hth
                    go_wp2
                    go_roundw
                    case rel => exact ⟨j + 1, by go_num, by omega, by rw [HTK.out, ← HG1.out, HGO.out.symm]; exact HC.out, HF0.out, HB5.out⟩
                    case measure => simp [intOf]; omega
        · have hne : (((fitN x : Nat) : Int) != 0) = true := by rw [bne_iff_ne]; omega
          have HX := Lib.hid (show chkN l = fitN x by rw [HGO.out, HGS.out (by rw [stepN_fit hfx]; exact hfx), stepN_fit hfx])
          clear hfx
          go_wp2
          go_ret
          exact ⟨ret_int (by rw [HX.out]), HB2.out⟩
      · obtain rfl : k = l.length := by omega
        rw [List.drop_length] at hgo
        have HX := Lib.hid (show chkN l = 0 from HC.out.trans hgo.symm)
        clear hgo hfit
        go_wp2
        go_ret
        exact ⟨ret_int (by rw [HX.out]; rfl), HBL.out⟩
end Go.Proofs.YtaoejgnfoecpfaaDoor
namespace Go.Proofs.YtaoejgnfoecpfaaDoor
set_option linter.unusedVariables false
set_option linter.unusedSimpArgs false
set_option linter.unusedSectionVars false
open Go.RowKit

theorem infoRc : (Tryd.prog.info? 72).map (fun i => (i.zero, i.size, i.bytes)) = some (some (.agg #[.int .i64 0, .string ⟨#[]⟩, .int .i64 0, .int .i64 0, .int .i64 0, .slice none 0 0, .string ⟨#[]⟩]), 7, 88) := by kernel_rfl
theorem GoR.blk {g p : Nat} {w w' : World} {t : TypeId} {cs : Array Value} (h : GoR g w w') (hb : Blk w p t cs) (hp : p ≠ g) : Blk w' p t cs := (h.block p hb.lt hp).trans hb
theorem GoR.setP {g p i : Nat} {w w' : World} (h : GoR g w w') (hp : w.heap.size ≤ p) (u : Value) : GoR g w (w'.setCell ⟨p, i, none⟩ u) := h.trans (Touch.setc w' p i u) fun j hj e => by omega
theorem RdC.far {w : World} {g e p i : Nat} {s : ByteArray} (h : RdC w g s e) (hp : g ≠ p) (u : Value) : RdC (w.setCell ⟨p, i, none⟩ u) g s e := Blk.far h (by simpa using hp) u
/-- the record that is being read -/
structure RdSt (wo wc : World) (g p : Nat) (x : Nr) (s : ByteArray) (e : Nat) (B : Option Addr) (cb : Nat) : Prop where
  rd : RdC wc g s e
  blk : Blk wc p 72 (recC x B cb)
  st : StrsA wc wc.heap.size B x.chunks
  nw : ∀ k o, B = some ⟨k, o, none⟩ → wo.heap.size < k
  go : GoR g wo wc
def pre0 (k : Nat) (a : ByteArray) (m t : Nat) : Nr := ⟨k, a, m, t, 0, [], noB⟩
def err0 (k e : Nat) : Nat := if k = 1 ∨ k = 2 ∨ k = 3 then e else failE e 3
/-- behind a file's part -/
def rest2 (k : Nat) (a : ByteArray) (m t : Nat) (s : ByteArray) (e : Nat) : Nr × ByteArray × Nat := if k = 2 then restE 2 a m t s e else (pre0 k a m t, s, err0 k e)
theorem restE_1 {k : Nat} (h2 : k ≠ 2) (h3 : k ≠ 3) (a : ByteArray) (m t : Nat) (s : ByteArray) (e : Nat) : restE k a m t s e = rest2 k a m t s e := by
  unfold rest2
  rw [if_neg h2]
  unfold err0 pre0
  by_cases h1 : k = 1
  · rw [if_pos (.inl h1), restE_one h1]
  · rw [if_neg (by omega), restE_no h1 h2 h3]
theorem restE_2 {k : Nat} (h : k = 2) (a : ByteArray) (m t : Nat) (s : ByteArray) (e : Nat) : restE k a m t s e = rest2 k a m t s e := by
  subst h
  unfold rest2
  rw [if_pos rfl]
def RSt (wo : World) (g p : Nat) (r : Nr × ByteArray × Nat) (wc : World) : Prop := ∃ B cb, RdSt wo wc g p r.1 r.2.1 r.2.2 B cb
/-- the records so far, and where each's chunks lie -/
def RecsV (w : World) (P : Nat → Prop) (rs : List (Nr × Option Addr × Nat)) : Prop := ∀ r ∈ rs, StrsA w w.heap.size r.2.1 r.1.chunks ∧ (0 < r.1.chunks.length → ∀ k o, r.2.1 = some ⟨k, o, none⟩ → P k)
def recsC (rs : List (Nr × Option Addr × Nat)) : List Value := (rs.map fun r => (recC r.1 r.2.1 r.2.2).toList).flatten
theorem recsC_snoc (rs : List (Nr × Option Addr × Nat)) (r : Nr × Option Addr × Nat) : recsC (rs ++ [r]) = recsC rs ++ (recC r.1 r.2.1 r.2.2).toList := by unfold recsC; simp
theorem StrsA.keep {w w' : World} {A : Option Addr} {l : List ByteArray} (h : StrsA w w.heap.size A l) (hs : w.heap.size ≤ w'.heap.size) (he : 0 < l.length → ∀ g o, A = some ⟨g, o, none⟩ → g < w.heap.size → w'.heap[g]? = w.heap[g]?) : StrsA w' w'.heap.size A l := fun hl => by
  obtain ⟨g, o, rfl, h2, h3⟩ := h hl
  exact ⟨g, o, rfl, Nat.lt_of_lt_of_le h2 hs, fun j u hj => (World.cell?_of_block (he hl g o rfl h2)).trans (h3 j u hj)⟩
theorem RecsV.keep {w w' : World} {P Q : Nat → Prop} {rs : List (Nr × Option Addr × Nat)} (h : RecsV w P rs) (hs : w.heap.size ≤ w'.heap.size) (hk : ∀ k, P k → k < w.heap.size → w'.heap[k]? = w.heap[k]? ∧ Q k) : RecsV w' Q rs := fun r hr => by
  obtain ⟨h1, h2⟩ := h r hr
  refine ⟨h1.keep hs fun hl g o e hg => (hk g (h2 hl g o e) hg).1, fun hl k o e => ?_⟩
  obtain ⟨g, o', e', hg, _⟩ := h1 hl
  rw [e] at e'
  injection e' with e'
  injection e' with e1 e2
  subst e1
  exact (hk k (h2 hl k o e) hg).2
theorem RecsV.snoc {w : World} {P : Nat → Prop} {rs : List (Nr × Option Addr × Nat)} {r : Nr × Option Addr × Nat} (h : RecsV w P rs) (h1 : StrsA w w.heap.size r.2.1 r.1.chunks) (h2 : 0 < r.1.chunks.length → ∀ k o, r.2.1 = some ⟨k, o, none⟩ → P k) : RecsV w P (rs ++ [r]) := fun q hq => by
  rcases List.mem_append.1 hq with hq | hq
  · exact h q hq
  · obtain rfl := List.mem_singleton.1 hq
    exact ⟨h1, h2⟩
theorem own_rowN {w : World} {B n k c : Nat} {t : TypeId} {A : Option Addr} {l : List (List Value)} (hk : 0 < k) (hc : ∀ x ∈ l, x.length = k) (h : w.ownsRow B t k (.slice A n c) n l.flatten) : (0 < l.length → ∃ g o, A = some ⟨g, o, none⟩ ∧ g < w.heap.size ∧ ∀ (i : Nat) (c : List Value), l[i]? = some c → ∀ (j : Nat) (u : Value), c[j]? = some u → w.cell? ⟨g, o + i * k + j, none⟩ = some u) ∧ n = l.length := by
  have hfl : l.flatten.length = l.length * k := by
    clear h
    induction l with
    | nil => simp
    | cons y r ih => rw [List.flatten_cons, List.length_append, hc y (by simp), ih (fun x hx => hc x (by simp [hx])), List.length_cons, Nat.succ_mul]; omega
  have hn : n = l.length := by
    have := h.1
    rw [hfl] at this
    exact Nat.eq_of_mul_eq_mul_right hk this.symm
  refine ⟨fun hl => ?_, hn⟩
  rcases h.2 with ⟨hv, _⟩ | ⟨g, cap, cur, hv, _⟩
  · simp at hv; omega
  · simp only [Value.slice.injEq] at hv
    obtain ⟨rfl, _, rfl⟩ := hv
    refine ⟨g, 0, rfl, (h.lt g rfl).2, fun i x hi j u hj => ?_⟩
    have hil : i < l.length := (List.getElem?_eq_some_iff.1 hi).1
    have hx := hc x (List.mem_of_getElem? hi)
    have hjl : j < k := by have := (List.getElem?_eq_some_iff.1 hj).1; omega
    have hb : i * k + j < n * k := by
      rw [hn]
      calc i * k + j < i * k + k := by omega
        _ = (i + 1) * k := by rw [Nat.succ_mul]
        _ ≤ l.length * k := Nat.mul_le_mul_right k hil
    rw [Nat.zero_add, h.cellAt (i * k + j) hb]
    have key : ∀ (l : List (List Value)) (i : Nat), (∀ x ∈ l, x.length = k) → l[i]? = some x → l.flatten[i * k + j]? = some u := by
      intro l
      induction l with
      | nil => intro i _ hi; simp at hi
      | cons y r ih =>
        intro i hc hi
        rw [List.flatten_cons]
        have hy := hc y (by simp)
        cases i with
        | zero =>
          simp only [List.getElem?_cons_zero, Option.some.injEq] at hi
          subst hi
          rw [Nat.zero_mul, Nat.zero_add, List.getElem?_append_left (by omega)]
          exact hj
        | succ i =>
          simp only [List.getElem?_cons_succ] at hi
          rw [List.getElem?_append_right (by rw [hy, Nat.succ_mul]; omega), hy]
          have e : (i + 1) * k + j - k = i * k + j := by rw [Nat.succ_mul]; omega
          rw [e]
          exact ih i (fun x hx => hc x (by simp [hx])) hi
    exact key l i hc hi
theorem RecsV.row {w : World} {P : Nat → Prop} {rs : List (Nr × Option Addr × Nat)} {B n c : Nat} {t : TypeId} {A : Option Addr} (h : RecsV w P rs) (ho : w.ownsRow B t 7 (.slice A n c) n (recsC rs)) : RecsA w A (rs.map (·.1)) := fun hl => by
  rw [List.length_map] at hl
  have hc7 : ∀ x ∈ (rs.map fun r => (recC r.1 r.2.1 r.2.2).toList), x.length = 7 := fun x hx => by obtain ⟨r, _, rfl⟩ := List.mem_map.1 hx; rfl
  obtain ⟨g, o, rfl, hg, hc⟩ := (own_rowN (by decide) hc7 ho).1 (by rw [List.length_map]; exact hl)
  refine ⟨g, o, rfl, hg, fun i x hx => ?_⟩
  rw [List.getElem?_map] at hx
  obtain ⟨r, hr, rfl⟩ := Option.map_eq_some_iff.1 hx
  obtain ⟨h1, _⟩ := h r (List.mem_of_getElem? hr)
  exact ⟨r.2.1, r.2.2, fun j u hj => hc i _ (by rw [List.getElem?_map, hr]; rfl) j u (by simpa using hj), h1⟩
def DecRPost (s : ByteArray) (w : World) (r : Ending) (w' : World) : Prop :=
  ∃ A c, r = .returned (.tuple #[.slice A (decN s).1.length c, .int .i64 ((decN s).2 : Nat)]) ∧ RecsA w' A (decN s).1 ∧ Below w.heap.size w w' ∧ (decN s).1.length ≤ c
end Go.Proofs.YtaoejgnfoecpfaaDoor
namespace Go.Proofs.YtaoejgnfoecpfaaDoor
set_option linter.unusedVariables false
set_option linter.unusedSimpArgs false
set_option linter.unusedSectionVars false
open Go.RowKit

theorem txt_neb (a b : ByteArray) : (a.toList != b.toList) = !decide (a = b) := by
  have := txt_eqb a b
  rw [bne, this]
theorem int_neb (a b : Int) : (a != b) = !decide (a = b) := by rw [bne, int_eqb]
theorem len_neb (a b : Nat) : ((a : Int) != (b : Int)) = !decide (a = b) := by
  rw [int_neb]
  congr 1
  rw [Bool.eq_iff_iff, decide_eq_true_eq, decide_eq_true_eq]
  omega
theorem nr_ext {x y : Nr} (h0 : x.kind = y.kind) (h1 : x.at_ = y.at_) (h2 : x.mode = y.mode) (h3 : x.time = y.time) (h4 : x.size = y.size) (h5 : x.target = y.target) (h6 : x.chunks = y.chunks) : x = y := by
  cases x
  cases y
  simp_all
theorem take_eq_snoc {α : Type} {a b : List α} {k : Nat} (h : a.take k = b.take k) (ha : k < a.length) (hb : k < b.length) (he : a[k] = b[k]) : a.take (k + 1) = b.take (k + 1) := by
  rw [List.take_succ_eq_append_getElem ha, List.take_succ_eq_append_getElem hb, h, he]
theorem ne_of_get {α : Type} {a b : List α} {k : Nat} (ha : k < a.length) (hb : k < b.length) (he : a[k] ≠ b[k]) : a ≠ b := by
  rintro rfl
  exact he rfl
set_option maxRecDepth 100000 in
set_option maxHeartbeats 12800000 in
theorem nsame_any (la lb : List Nr) (A B : Option Addr) (ca cb : Nat) (w : World) (ha : RecsA w A la) (hb : RecsA w B lb) (hl : la.length ≤ 9223372036854775807) (hcl : ∀ x ∈ la, x.chunks.length ≤ 9223372036854775807) :
    Calls Tryd.prog 25 #[.slice A la.length ca, .slice B lb.length cb] w fun e w' => e = .returned (.bool (decide (la = lb))) ∧ Below w.heap.size w w' := by
  have HA := Lib.hid fun W (hb : Below w.heap.size w W) => ha.below hb
  have HB := Lib.hid fun W (h : Below w.heap.size w W) => hb.below h
  have HCL := Lib.hid hcl
  clear ha hb hcl
  by_cases hlen : la.length = lb.length
  · have hq : ((la.length : Int) != (lb.length : Int)) = false := by rw [len_neb, decide_eq_true hlen]; rfl
    have HLE := Lib.hid hlen
    clear hlen
    go_enter Tryd.func25, Tryd.ntmps25
    go_wp2
    go_loopw [16] (fun i wr => ∃ k : Nat, i = .int .i64 k ∧ k ≤ la.length ∧ la.take k = lb.take k ∧ Below w.heap.size w wr) (fun i _ => la.length - (intOf i).toNat)
    case atStart => exact ⟨0, rfl, Nat.zero_le _, by simp, Below.refl _ _⟩
    case round =>
      obtain ⟨k, rfl, hk, htk, hbel⟩ := hrel
      have HBL := Lib.hid hbel
      have HTK := Lib.hid htk
      clear htk
      by_cases hkl : k < la.length
      · have hkb : k < lb.length := by have := HLE.out; omega
        obtain ⟨g, o, rfl, hg, hcc⟩ := HA.out wr hbel (by omega)
        obtain ⟨X, cx, hcx, hsx⟩ := hcc k la[k] (List.getElem?_eq_getElem hkl)
        obtain ⟨g', o', rfl, hg', hcc'⟩ := HB.out wr hbel (by omega)
        obtain ⟨Y, cy, hcy, hsy⟩ := hcc' k lb[k] (List.getElem?_eq_getElem hkb)
        have HCK := Lib.hid (HCL.out _ (List.getElem_mem hkl))
        have HNE := Lib.hid (ne_of_get (a := la) (b := lb) hkl hkb)
        have HEQ := Lib.hid (take_eq_snoc HTK.out hkl hkb)
        clear hcc hcc' hbel
        generalize la[k] = x at *
        generalize lb[k] = y at *
        have p0 : wr.cell? ⟨g, o + k * 7, none⟩ = some (.int .i64 x.kind) := hcx 0 _ rfl
        have p1 : wr.cell? ⟨g, o + k * 7 + 1, none⟩ = some (.string x.at_) := hcx 1 _ rfl
        have p2 : wr.cell? ⟨g, o + k * 7 + 2, none⟩ = some (.int .i64 x.mode) := hcx 2 _ rfl
        have p3 : wr.cell? ⟨g, o + k * 7 + 3, none⟩ = some (.int .i64 x.time) := hcx 3 _ rfl
        have p4 : wr.cell? ⟨g, o + k * 7 + 4, none⟩ = some (.int .i64 x.size) := hcx 4 _ rfl
        have p5 : wr.cell? ⟨g, o + k * 7 + 5, none⟩ = some (.slice X x.chunks.length cx) := hcx 5 _ rfl
        have p6 : wr.cell? ⟨g, o + k * 7 + 6, none⟩ = some (.string x.target) := hcx 6 _ rfl
        have q0 : wr.cell? ⟨g', o' + k * 7, none⟩ = some (.int .i64 y.kind) := hcy 0 _ rfl
        have q1 : wr.cell? ⟨g', o' + k * 7 + 1, none⟩ = some (.string y.at_) := hcy 1 _ rfl
        have q2 : wr.cell? ⟨g', o' + k * 7 + 2, none⟩ = some (.int .i64 y.mode) := hcy 2 _ rfl
        have q3 : wr.cell? ⟨g', o' + k * 7 + 3, none⟩ = some (.int .i64 y.time) := hcy 3 _ rfl
        have q4 : wr.cell? ⟨g', o' + k * 7 + 4, none⟩ = some (.int .i64 y.size) := hcy 4 _ rfl
        have q5 : wr.cell? ⟨g', o' + k * 7 + 5, none⟩ = some (.slice Y y.chunks.length cy) := hcy 5 _ rfl
        have q6 : wr.cell? ⟨g', o' + k * 7 + 6, none⟩ = some (.string y.target) := hcy 6 _ rfl
        have hk0 : (0 : Int) ≤ (k : Int) := by omega
        have hka : (k : Int) < (la.length : Int) := by omega
        have hkb2 : (k : Int) < (lb.length : Int) := by omega
        have hk3 : ((k : Int)).toNat = k := by omega
        have HSX := Lib.hid hsx
        have HSY := Lib.hid hsy
        clear hcx hcy hsx hsy
        obtain ⟨wo, rfl⟩ : ∃ wo : World, wo = wr := ⟨_, rfl⟩
        go_upto_region 6 with fail
        have hba := (Below.refl wo.heap.size wo).alloc (Nat.le_refl _) (.cells (recC x X cx) 72)
        have HKA := Lib.hid (Blk.new wo 72 (recC x X cx))
        have HBA := Lib.hid hba
        have HQ := Lib.hid fun (i : Nat) (u : Value) (hi : wo.cell? ⟨g', o' + k * 7 + i, none⟩ = some u) => (hba.cell (p := ⟨g', o' + k * 7 + i, none⟩) hg').trans hi
        unfold recC at HKA HBA HQ
        generalize wo.alloc (.cells #[.int .i64 x.kind, .string x.at_, .int .i64 x.mode, .int .i64 x.time, .int .i64 x.size, .slice X x.chunks.length cx, .string x.target] 72) = wa at *
        have r0 : wa.cell? ⟨g', o' + k * 7, none⟩ = some (.int .i64 y.kind) := HQ.out 0 _ q0
        have r1 : wa.cell? ⟨g', o' + k * 7 + 1, none⟩ = some (.string y.at_) := HQ.out 1 _ q1
        have r2 : wa.cell? ⟨g', o' + k * 7 + 2, none⟩ = some (.int .i64 y.mode) := HQ.out 2 _ q2
        have r3 : wa.cell? ⟨g', o' + k * 7 + 3, none⟩ = some (.int .i64 y.time) := HQ.out 3 _ q3
        have r4 : wa.cell? ⟨g', o' + k * 7 + 4, none⟩ = some (.int .i64 y.size) := HQ.out 4 _ q4
        have r5 : wa.cell? ⟨g', o' + k * 7 + 5, none⟩ = some (.slice Y y.chunks.length cy) := HQ.out 5 _ q5
        have r6 : wa.cell? ⟨g', o' + k * 7 + 6, none⟩ = some (.string y.target) := HQ.out 6 _ q6
        clear p0 p1 p2 p3 p4 p5 p6 q0 q1 q2 q3 q4 q5 q6 hba
        go_upto_region 7 with fail
        have hbb := (Below.refl wa.heap.size wa).alloc (Nat.le_refl _) (.cells (recC y Y cy) 72)
        have HKB := Lib.hid (Blk.new wa 72 (recC y Y cy))
        have HKA2 := Lib.hid (HKA.out.below hbb HKA.out.lt)
        have HBB := Lib.hid (HBL.out.trans ((HBA.out.trans (hbb.mono HBA.out.size)).mono HBL.out.size))
        have HSX2 := Lib.hid (HSX.out.below (HBA.out.trans (hbb.mono HBA.out.size)))
        have HSY2 := Lib.hid (HSY.out.below (HBA.out.trans (hbb.mono HBA.out.size)))
        unfold recC at HKB HKA2 HBB HSX2 HSY2
        generalize wa.alloc (.cells #[.int .i64 y.kind, .string y.at_, .int .i64 y.mode, .int .i64 y.time, .int .i64 y.size, .slice Y y.chunks.length cy, .string y.target] 72) = wb at *
        clear r0 r1 r2 r3 r4 r5 r6 hbb HKA HBA HQ HBL HSX HSY
        obtain ⟨⟨a0, a1, a2, a3, a4, a5, a6⟩, _⟩ := blk7' HKA2.out
        obtain ⟨⟨b0, b1, b2, b3, b4, b5, b6⟩, _⟩ := blk7' HKB.out
        by_cases e0 : x.kind = y.kind
        rotate_left
        · have d0 : (x.kind != y.kind) = true := by rw [int_neb, decide_eq_false e0]; rfl
          have HX := Lib.hid (show decide (la = lb) = false from decide_eq_false (HNE.out (fun h => e0 (by rw [h]))))
          clear e0
          go_wp2
          go_ret
          exact ⟨ret_bool HX.out.symm, HBB.out⟩
        have d0 : (x.kind != y.kind) = false := by rw [int_neb, decide_eq_true e0]; rfl
        by_cases e1 : x.at_ = y.at_
        rotate_left
        · have d1 : (x.at_.toList == y.at_.toList) = false := by rw [txt_eqb, decide_eq_false e1]
          have HX := Lib.hid (show decide (la = lb) = false from decide_eq_false (HNE.out (fun h => e1 (by rw [h]))))
          clear e0 e1
          go_wp2
          go_ret
          exact ⟨ret_bool HX.out.symm, HBB.out⟩
        have d1 : (x.at_.toList == y.at_.toList) = true := by rw [txt_eqb, decide_eq_true e1]
        by_cases e2 : x.mode = y.mode
        rotate_left
        · have d2 : (x.mode != y.mode) = true := by rw [int_neb, decide_eq_false e2]; rfl
          have HX := Lib.hid (show decide (la = lb) = false from decide_eq_false (HNE.out (fun h => e2 (by rw [h]))))
          clear e0 e1 e2
          go_wp2
          go_ret
          exact ⟨ret_bool HX.out.symm, HBB.out⟩
        have d2 : (x.mode != y.mode) = false := by rw [int_neb, decide_eq_true e2]; rfl
        by_cases e3 : x.time = y.time
        rotate_left
        · have d3 : (x.time != y.time) = true := by rw [int_neb, decide_eq_false e3]; rfl
          have HX := Lib.hid (show decide (la = lb) = false from decide_eq_false (HNE.out (fun h => e3 (by rw [h]))))
          clear e0 e1 e2 e3
          go_wp2
          go_ret
          exact ⟨ret_bool HX.out.symm, HBB.out⟩
        have d3 : (x.time != y.time) = false := by rw [int_neb, decide_eq_true e3]; rfl
        by_cases e4 : x.size = y.size
        rotate_left
        · have d4 : (x.size != y.size) = true := by rw [int_neb, decide_eq_false e4]; rfl
          have HX := Lib.hid (show decide (la = lb) = false from decide_eq_false (HNE.out (fun h => e4 (by rw [h]))))
          clear e0 e1 e2 e3 e4
          go_wp2
          go_ret
          exact ⟨ret_bool HX.out.symm, HBB.out⟩
        have d4 : (x.size != y.size) = false := by rw [int_neb, decide_eq_true e4]; rfl
        by_cases e5 : x.target = y.target
        rotate_left
        · have d5 : (x.target.toList == y.target.toList) = false := by rw [txt_eqb, decide_eq_false e5]
          have HX := Lib.hid (show decide (la = lb) = false from decide_eq_false (HNE.out (fun h => e5 (by rw [h]))))
          clear e0 e1 e2 e3 e4 e5
          go_wp2
          go_ret
          exact ⟨ret_bool HX.out.symm, HBB.out⟩
        have d5 : (x.target.toList == y.target.toList) = true := by rw [txt_eqb, decide_eq_true e5]
        by_cases e6 : x.chunks.length = y.chunks.length
        rotate_left
        · have d6 : ((x.chunks.length : Int) != (y.chunks.length : Int)) = true := by rw [len_neb, decide_eq_false e6]; rfl
          have HX := Lib.hid (show decide (la = lb) = false from decide_eq_false (HNE.out (fun h => e6 (by rw [h]))))
          clear e0 e1 e2 e3 e4 e5 e6
          go_wp2
          go_ret
          exact ⟨ret_bool HX.out.symm, HBB.out⟩
        have d6 : ((x.chunks.length : Int) != (y.chunks.length : Int)) = false := by rw [len_neb, decide_eq_true e6]; rfl
        have HE := Lib.hid (fun (e : x.chunks = y.chunks) => nr_ext e0 e1 e2 e3 e4 e5 e)
        have HCE := Lib.hid e6
        clear e0 e1 e2 e3 e4 e5 e6
        go_wp2
        go_loopw [8, 77] (fun _ i wi => ∃ j : Nat, i = .int .i64 j ∧ j ≤ x.chunks.length ∧ x.chunks.take j = y.chunks.take j ∧ Below wb.heap.size wb wi) (fun _ i _ => x.chunks.length - (intOf i).toNat)
        case atStart => exact ⟨0, rfl, Nat.zero_le _, by simp, Below.refl _ _⟩
        case round =>
          obtain ⟨j, rfl, hj, htj, hbi⟩ := hrel
          have HBI := Lib.hid hbi
          have HTJ := Lib.hid htj
          clear htj hbi a0 a1 a2 a3 a4 a5 a6 b0 b1 b2 b3 b4 b5 b6
          have hce := HCE.out
          have hclx := HCK.out
          by_cases hjl : j < x.chunks.length
          · have HJL := Lib.hid hjl
            have hjb : j < y.chunks.length := by omega
            obtain ⟨gx, ox, rfl, hgx, hxc⟩ := HSX2.out (by omega)
            obtain ⟨gy, oy, rfl, hgy, hyc⟩ := HSY2.out (by omega)
            have hx1 := (HBI.out.cell (p := ⟨gx, ox + j, none⟩) hgx).trans (hxc j x.chunks[j] (List.getElem?_eq_getElem hjl))
            have hy1 := (HBI.out.cell (p := ⟨gy, oy + j, none⟩) hgy).trans (hyc j y.chunks[j] (List.getElem?_eq_getElem hjb))
            have HNE2 := Lib.hid (ne_of_get (a := x.chunks) (b := y.chunks) hjl hjb)
            have HEQ2 := Lib.hid (take_eq_snoc HTJ.out hjl hjb)
            have k5 : wr.cell? ⟨wo.heap.size, 5, none⟩ = some (.slice (some ⟨gx, ox, none⟩) x.chunks.length cx) := (HKA2.out.below HBI.out HKA2.out.lt).cell 5
            have k6 : wr.cell? ⟨wa.heap.size, 5, none⟩ = some (.slice (some ⟨gy, oy, none⟩) y.chunks.length cy) := (HKB.out.below HBI.out HKB.out.lt).cell 5
            clear hxc hyc
            generalize x.chunks[j] = u at *
            generalize y.chunks[j] = v at *
            have hj0 : (0 : Int) ≤ (j : Int) := by omega
            have hjx : (j : Int) < (x.chunks.length : Int) := by omega
            have hjy : (j : Int) < (y.chunks.length : Int) := by omega
            have hj3 : ((j : Int)).toNat = j := by omega
            by_cases huv : u = v
            · have dd : (u.toList == v.toList) = true := by rw [txt_eqb, decide_eq_true huv]
              have HS := Lib.hid (HEQ2.out huv)
              clear huv
              go_wp2
              go_quiet (fail)
              go_wp2
              go_roundw
              case rel => exact ⟨j + 1, by go_num, HJL.out, HS.out, Go.below_drewN HBI.out nq⟩
              case measure => have := HJL.out; simp [intOf]; omega
            · have dd : (u.toList == v.toList) = false := by rw [txt_eqb, decide_eq_false huv]
              have HX := Lib.hid (show decide (la = lb) = false from decide_eq_false (HNE.out fun h => HNE2.out huv (by rw [h])))
              have HB9 := Lib.hid (HBB.out.trans (HBI.out.mono HBB.out.size))
              clear huv
              go_wp2
              go_quiet (fail)
              go_wp2
              go_ret
              exact ⟨ret_bool HX.out.symm, Go.below_drewN HB9.out nq⟩
          · obtain rfl : j = x.chunks.length := by omega
            have HXE := Lib.hid (HEQ.out (HE.out (by
              have := HTJ.out
              rw [List.take_length, List.take_of_length_le (by omega)] at this
              exact this)))
            have HB9 := Lib.hid (HBB.out.trans (HBI.out.mono HBB.out.size))
            go_wp2
            go_roundw
            case rel => exact ⟨k + 1, by go_num, by omega, HXE.out, HB9.out⟩
            case measure => simp [intOf]; omega
      · obtain rfl : k = la.length := by omega
        have HX := Lib.hid (show decide (la = lb) = true from decide_eq_true (by
          have := HTK.out
          rw [List.take_length, List.take_of_length_le (by have := HLE.out; omega)] at this
          exact this))
        go_wp2
        go_ret
        exact ⟨ret_bool HX.out.symm, HBL.out⟩
  · have hq : ((la.length : Int) != (lb.length : Int)) = true := by rw [len_neb, decide_eq_false hlen]; rfl
    have HX := Lib.hid (show decide (la = lb) = false from decide_eq_false fun e => hlen (by rw [e]))
    clear hlen
    go_enter Tryd.func25, Tryd.ntmps25
    go_wp2
    go_ret
    exact ⟨ret_bool HX.out.symm, Below.refl _ _⟩
end Go.Proofs.YtaoejgnfoecpfaaDoor
