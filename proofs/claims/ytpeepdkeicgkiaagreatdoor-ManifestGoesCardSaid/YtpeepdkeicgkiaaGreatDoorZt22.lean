/- ManifestGoes: its walk. -/
import Derived.Test.YtpeepdkeicgkiaaGreatDoorZt21
namespace Go.Proofs.YtpeepdkeicgkiaaGreatDoor
set_option linter.unusedVariables false
set_option linter.unusedSimpArgs false
set_option linter.unusedSectionVars false
open Go.RowKit Go.Maps

theorem own_emptyS {w : World} {B : Nat} {t : TypeId} (h : B ≤ w.heap.size) : (w.alloc (.cells #[] t)).ownsRow B t 1 (.slice (some ⟨w.heap.size, 0, none⟩) 0 0) 0 [] :=
  World.ownsRow_lit (base := B) (size := 1) (e := t) w #[] 0 h (by decide) rfl
theorem GI.start {w0 w1 : World} {b : Nat} {D : Dk} {L : Lay} (h1 : DiskAt w1 b D L) (h2 : Below w0.heap.size w0 w1) (h3 : ∀ k ∈ foot b L, w0.heap.size ≤ k) :
    GI w0 ((w1.alloc (.cells #[] 9)).alloc (.cells #[] 9)) b D (.slice (some ⟨w1.heap.size, 0, none⟩) 0 0) (.slice (some ⟨w1.heap.size + 1, 0, none⟩) 0 0) [] [] := by
  have hb : Below w1.heap.size w1 ((w1.alloc (.cells #[] 9)).alloc (.cells #[] 9)) := ((Below.refl _ _).alloc (Nat.le_refl _) _).alloc (by simp) _
  have hz := h2.size
  have e2 := own_emptyS (w := w1.alloc (.cells #[] 9)) (B := w0.heap.size) (t := 9) (by simp; omega)
  rw [World.size_alloc] at e2
  refine ⟨L, h1.below hb, h2.trans (hb.mono hz), h3, (own_emptyS hz).alloc _, e2, fun k hk hm => ?_, fun k hk hm => ?_, fun k hk hk2 => ?_⟩
  · obtain rfl : w1.heap.size = k := by simpa [Value.ownBlock] using hk
    have := h1.flt _ hm; omega
  · obtain rfl : w1.heap.size + 1 = k := by simpa [Value.ownBlock] using hk
    have := h1.flt _ hm; omega
  · have e1 : w1.heap.size = k := by simpa [Value.ownBlock] using hk
    have e2 : w1.heap.size + 1 = k := by simpa [Value.ownBlock] using hk2
    omega
theorem small_rest {D : Dk} {R : Int} {N F Z n : Nat} (h : Rest D R N F Z) (hn : F ≤ n) : D.small n := ⟨Nat.le_trans h.calm.fl hn, by have := h.calm.st; omega⟩
set_option maxRecDepth 100000 in
set_option maxHeartbeats 12800000 in
theorem goes_all (A : Option Addr) (ca : Nat) (l : List Man) (bv : Value) (bl : List Bool) (kv : Value) (ks : List Int) (w : World) (he : Env w) (hm : MansI w A l) (hl : l.length ≤ 140737488355328) (hb : RowBool w bv bl) (hk : KsP w kv ks) :
    Calls Tryz.prog 5 #[.slice A l.length ca, bv, kv] w fun e w' => e = .returned (.bool true) ∧ Below w.heap.size w w' := by
  have HE := Lib.hid fun W (hb : Below w.heap.size w W) => he.below hb
  have HN := Lib.hid (new_any 1048576 w (by decide))
  have HM := Lib.hid fun W (hb : Below w.heap.size w W) => hm.up hb
  obtain ⟨ab, cb, rfl, hbl, hbc⟩ := hb
  have HBC := Lib.hid fun i (h : i < bl.length) W (hb : Below w.heap.size w W) => (show ∃ g o, ab = some ⟨g, o, none⟩ ∧ W.cell? ⟨g, o + i, none⟩ = some (.bool bl[i]) from by
    obtain ⟨g, o, cs, e, hlt, rfl, hc⟩ := hbc i h
    refine ⟨g, o, e, (hb.cell (p := ⟨g, o + i, none⟩) hlt).trans ?_⟩
    have := hc 0 _ rfl
    rwa [Nat.mul_one] at this)
  have HKR := Lib.hid hk.1
  have HKK := Lib.hid hk.2
  clear he hm hbc hk
  go_enter Tryz.func5, Tryz.ntmps5
  go_wp2_with fail
  refine HN.out.mono ?_
  rintro e w1 ⟨b, L, rfl, hd1, hb1, hf1⟩
  have HB1 := Lib.hid hb1
  have HGI := Lib.hid (GI.start hd1 hb1 hf1)
  clear hd1 hb1 hf1 HN
  go_wp2
  go_loopw [9, 10, 11] (fun av gv iv wr => ∃ (k : Nat) (D : Dk) (all gone : List ByteArray), iv = .int .i64 (k : Nat) ∧ k ≤ l.length ∧ k ≤ 6 ∧ Hid (G1 l k D all gone) ∧ Hid (GI w wr b D av gv all gone)) (fun _ _ iv _ => 6 - (intOf iv).toNat)
  case atStart => exact ⟨0, _, [], [], rfl, by omega, by omega, Lib.hid (G1.zero l), HGI⟩
  case round =>
    clear HGI
    obtain ⟨k, D, all, gone, rfl, hkl, hk6, HG, HGI⟩ := hrel
    by_cases hlt : k < l.length ∧ k < 6
    · obtain ⟨h1, h2⟩ := hlt
      obtain ⟨g, o, rfl, hg, hcc⟩ := HM.out _ HGI.out.bel (by omega)
      obtain ⟨B, c, hcells, hin⟩ := hcc k _ (List.getElem?_eq_getElem h1)
      have q0 : wr.cell? ⟨g, o + k * 5, none⟩ = some (.int .i64 l[k].time) := hcells 0 _ rfl
      have q1 : wr.cell? ⟨g, o + k * 5 + 1, none⟩ = some (.string l[k].tag) := hcells 1 _ rfl
      have q2 : wr.cell? ⟨g, o + k * 5 + 2, none⟩ = some (.string l[k].parent) := hcells 2 _ rfl
      have q3 : wr.cell? ⟨g, o + k * 5 + 3, none⟩ = some (.int .i64 l[k].size) := hcells 3 _ rfl
      have q4 : wr.cell? ⟨g, o + k * 5 + 4, none⟩ = some (.slice B l[k].chunks.length c) := hcells 4 _ rfl
      have HF := Lib.hid (mfew_any l[k] B c wr hin.1 hin.2.1 hin.2.2.1 hin.2.2.2.1)
      have HMB := Lib.hid (hin.2.2.2.2.few)
      have HSM := Lib.hid (small_rest (n := 300000) HG.out.rest (by omega))
      have HMP := Lib.hid (mpublish_rest HG.out.rest (by omega) l[k])
      have HBAD := Lib.hid (HG.out.bad h1)
      have HTW := Lib.hid (HG.out.twice h1)
      have HNEW := Lib.hid (HG.out.new h1 h2)
      have HGL := Lib.hid HG.out.gl
      have HAL := Lib.hid HG.out.al
      have HSUB := Lib.hid HG.out.sub
      have HID := Lib.hid (show nameS (bs (manL (fewM l[k]))) = idM l[k] from rfl)
      have HIZ := Lib.hid (idM_size l[k])
      clear hcc hcells hin
      rw [HID.out] at HMP
      unfold manV at HF
      unfold FewPost manV at HF
      generalize idM l[k] = id at *
      generalize fewM l[k] = fm at *
      generalize l[k] = m at *
      obtain ⟨wo, rfl⟩ : ∃ wo : World, wo = wr := ⟨_, rfl⟩
      go_wp2_with fail
      refine HF.out.mono ?_
      rintro e w2 ⟨A2, c2, rfl, hst2, hb2, hc2, _⟩
      have HGI2 := Lib.hid (HGI.out.up hb2)
      have HPB := Lib.hid (HGI2.out.disk fun L h1 => mpublish_any b D L fm A2 c2 w2 h1 (HE.out _ HGI2.out.bel) hst2 HMB.out hc2 HSM.out)
      clear hst2 hb2 hc2 HGI HMB HSM HF q0 q1 q2 q3 q4
      rw [HMP.out] at HPB
      unfold manV at HPB
      go_wp2_with fail
      refine HPB.out.mono ?_
      rintro e w3 ⟨rfl, hg3⟩
      have HG3 := Lib.hid hg3
      clear hg3 HPB HGI2 HMP
      by_cases hgood : goodM fm = true
      · have HGD := Lib.hid hgood
        rw [if_pos hgood]
        clear hgood HBAD
        simp only
        have hall := HG3.out.formA
        obtain ⟨Aa, cca, hav, hsa, hca⟩ := hall
        subst hav
        have HSA := Lib.hid hsa
        have hal := HAL.out
        clear hsa
        go_wp2
        go_loopw [14, 64] (fun tv jv wr => ∃ j : Nat, tv = .bool (decide (id ∈ all.take j)) ∧ jv = .int .i64 (j : Nat) ∧ j ≤ all.length ∧ Hid (GI w wr b (D.pubM fm) (.slice Aa all.length cca) u10 all gone ∧ StrsA wr wr.heap.size Aa all)) (fun _ jv _ => all.length - (intOf jv).toNat)
        case atStart => exact ⟨0, rfl, rfl, Nat.zero_le _, Lib.hid ⟨HG3.out, HSA.out⟩⟩
        case round =>
          clear HG3 HSA
          obtain ⟨j, rfl, rfl, hj, HG3⟩ := hrel
          by_cases hjl : j < all.length
          · obtain ⟨ga, oa, rfl, hga, hca2⟩ := HG3.out.2 (by omega)
            have cs := hca2 j _ (List.getElem?_eq_getElem hjl)
            clear hca2
            have HT := Lib.hid (show decide (id ∈ all.take (j + 1)) = (decide (id ∈ all.take j) || decide (all[j] = id)) from by
              rw [List.take_succ_eq_append_getElem hjl, Bool.eq_iff_iff, decide_eq_true_iff, List.mem_append, List.mem_singleton, Bool.or_eq_true, decide_eq_true_iff, decide_eq_true_iff]
              exact or_congr_right eq_comm)
            have hx := str_eqb all[j] id
            generalize all[j] = x at *
            generalize decide (x = id) = bx at *
            generalize decide (id ∈ all.take j) = bt at *
            cases bt with
            | true =>
              go_wp2
              go_roundw
              case rel => exact ⟨j + 1, by rw [HT.out]; rfl, by go_num, by omega, HG3⟩
              case measure => simp [intOf]; omega
            | false =>
              go_wp2
              go_roundw
              case rel => exact ⟨j + 1, by rw [HT.out]; rfl, by go_num, by omega, HG3⟩
              case measure => simp [intOf]; omega
          · obtain rfl : j = all.length := by omega
            rw [List.take_length]
            by_cases htw : id ∈ all
            · have HR := Lib.hid (HTW.out HGD.out htw)
              have HG4 := Lib.hid HG3.out.1
              rw [decide_eq_true htw]
              clear HTW HNEW HG3 htw
              go_wp2
              go_roundw
              case rel => exact ⟨k + 1, D.pubM fm, all, gone, by go_num, by omega, by omega, HR, HG4⟩
              case measure => simp [intOf]; omega
            · have HR := Lib.hid (HNEW.out HGD.out htw)
              have HXG := Lib.hid (show id ∉ gone from fun h => htw (HSUB.out id h))
              have HG4 := Lib.hid HG3.out.1
              have hgl := HGL.out
              rw [decide_eq_false htw]
              clear HTW HNEW HG3 htw
              have hown := HG4.out.elim fun _ h => h.2.2.2.1
              have hzw := HG4.out.bel.size
              go_upto_region 18 with (at_builtin; refine wpList_app1 rfl _ _ 30 rfl w.heap.size 9 Tryz.underlying30 infoS rfl (by decide) _ _ _ rfl hown _ rfl rfl (oneCell_string _) (by omega) (by omega) hzw ?_; intro g5 c5 w5 ho5 hg5 hb5 hl5)
              have HG5 := Lib.hid (HG4.out.appA ho5 hg5 hb5 hl5)
              clear ho5 hg5 hb5 hl5 HG4 hown
              by_cases hkb : k < bl.length
              · obtain ⟨gb, ob, rfl, hcb⟩ := HBC.out k hkb _ HG5.out.bel
                have hbz : decide (k < bl.length) = true := decide_eq_true hkb
                generalize bl[k] = bk at *
                cases bk with
                | true =>
                  have hown := HG5.out.elim fun _ h => h.2.2.2.2.1
                  have hzw := HG5.out.bel.size
                  go_wp2_with (at_builtin; refine wpList_app1 rfl _ _ 30 rfl w.heap.size 9 Tryz.underlying30 infoS rfl (by decide) _ _ _ rfl hown _ rfl rfl (oneCell_string _) (by omega) (by omega) hzw ?_; intro g6 c6 w6 ho6 hg6 hb6 hl6)
                  have HG6 := Lib.hid (HG5.out.appG ho6 hg6 hb6 hl6)
                  have HR2 := Lib.hid (HR.out.goes HGL.out HXG.out)
                  clear ho6 hg6 hb6 hl6 HG5 hown HR hcb
                  go_wp2
                  go_roundw
                  case rel => exact ⟨k + 1, D.pubM fm, all ++ [id], gone ++ [id], by go_num, by omega, by omega, HR2, HG6⟩
                  case measure => simp [intOf]; omega
                | false =>
                  go_wp2
                  go_roundw
                  case rel => exact ⟨k + 1, D.pubM fm, all ++ [id], gone, by go_num, by omega, by omega, HR, HG5⟩
                  case measure => simp [intOf]; omega
              · have hbz : decide (k < bl.length) = false := decide_eq_false hkb
                go_wp2
                go_roundw
                case rel => exact ⟨k + 1, D.pubM fm, all ++ [id], gone, by go_num, by omega, by omega, HR, HG5⟩
                case measure => simp [intOf]; omega
      · have hg2 := HBAD.out hgood
        rw [if_neg hgood]
        simp only
        have HR := Lib.hid hg2.2
        have HG4 := Lib.hid (show GI w w3 b D u9 u10 all gone from by rw [← hg2.1]; exact HG3.out)
        clear hg2 hgood HBAD HG3 HTW HNEW
        go_wp2
        go_roundw
        case rel => exact ⟨k + 1, D, all, gone, by go_num, by omega, by omega, HR, HG4⟩
        case measure => simp [intOf]; omega
    · have HDN := Lib.hid (show ∀ i, i < l.length → i < 6 → i < k from fun i h1 h2 => by omega)
      obtain ⟨Ag, cg, hgv, _, hcg⟩ := HGI.out.formG
      obtain ⟨Aa, cca, hav, _, hca⟩ := HGI.out.formA
      subst hgv hav
      have hgl := HG.out.gl
      have hal := HG.out.al
      have HZ := Lib.hid (show ∀ y ∈ gone ++ [noSuch], y.size ≤ 140737488355328 from fun y hy => by
        rcases List.mem_append.1 hy with hy | hy
        · obtain ⟨i, _, _, _, e⟩ := HG.out.made y (HG.out.sub y hy)
          rw [e, idM_size]; decide
        · obtain rfl := List.mem_singleton.1 hy
          decide)
      have HLE := Lib.hid (And.intro (Nat.le_trans HG.out.gl hk6) (Nat.le_trans HG.out.al hk6))
      have HSM := Lib.hid (small_rest (n := 200000) HG.out.rest (by omega))
      have HREM := Lib.hid fun ok => HG.out.removed hk6 ok
      have HCNT := Lib.hid (filter_count HG.out.nd HG.out.gnd HG.out.sub)
      have HSUB := Lib.hid (show ∀ x ∈ all.filter (fun x => decide (x ∉ gone)), x ∈ all ∧ x ∉ gone from fun x hx => ⟨(List.mem_filter.1 hx).1, of_decide_eq_true (List.mem_filter.1 hx).2⟩)
      have HNF := Lib.hid (HG.out.nd.filter fun x => decide (x ∉ gone))
      rcases (by omega : ¬ k < l.length ∨ (k < l.length ∧ ¬ k < 6)) with h1 | ⟨h1, h2⟩
      all_goals
        clear hlt
        generalize all.filter (fun x => decide (x ∉ gone)) = left at *
        have hown := HGI.out.elim fun _ h => h.2.2.2.2.1
        have hzw := HGI.out.bel.size
        go_wp2_with (at_builtin; refine wpList_app1k rfl _ _ 30 rfl w.heap.size 9 Tryz.underlying30 infoS rfl (by decide) _ _ _ rfl hown _ rfl rfl (oneCell_string _) (by omega) (by omega) hzw ?_; intro g5 c5 w5 ho5 hg5 hb5 hl5)
        have hrm := HGI.out.removes (x := noSuch) ho5 hg5 hb5 hl5 HZ.out (by simp; omega) HSM.out
        have HRM := Lib.hid hrm.2
        clear hrm ho5 hg5 hb5 hl5 HGI hown HZ HSM
        generalize hmr : D.mremove (gone ++ [noSuch]) = mr at *
        obtain ⟨E, r⟩ := mr
        simp only at HRM HREM
        refine HRM.out.mono ?_
        rintro e w6 ⟨rfl, hg6⟩
        obtain ⟨hr0, hg2⟩ := HREM.out hg6.ok
        subst hr0
        have HG6 := Lib.hid hg6
        have HG2 := Lib.hid hg2
        clear hg6 hg2 HREM HRM hmr
        have HCR := Lib.hid (HG6.out.disk fun L h1 => crash_any b E L ks kv w6 h1 (HKR.out.below HG6.out.bel) HKK.out.1 HKK.out.2 (by have := HG2.out.rest.calm.st; omega) (by have := HG2.out.rest.calm.fl; omega))
        go_wp2_with fail
        refine HCR.out.mono ?_
        rintro e w7 ⟨rfl, hg7⟩
        have HG7 := Lib.hid hg7
        have HC2 := Lib.hid (HG2.out.crash ks)
        clear hg7 HCR HG6 HG2
        generalize E.crash ks = E7 at *
        have HLS := Lib.hid (HC2.out.listed HNF.out)
        have HLI := Lib.hid (show Calls Tryz.prog 11 #[.pointer (some ⟨b, 0, none⟩)] w7 fun e w' => MListPost E7 w7 e w' from by
          obtain ⟨L, q1, q2, _⟩ := HG7.out
          exact mlist_any b E7 L w7 q1 (HE.out _ q2) HC2.out.rest.calm.dead (by have := HC2.out.rest.calm.num; omega))
        unfold MListPost at HLI
        go_wp2_with fail
        refine HLI.out.mono ?_
        rintro e w8 ⟨As, cs, Bb, db, rfl, hsn, _, hcs, _, _, _, hb8⟩
        have HG8 := Lib.hid (HG7.out.up hb8)
        have HSN := Lib.hid hsn
        obtain ⟨hb0, hsl, hsm⟩ := HLS.out
        have HIN := Lib.hid hsm
        rw [hb0, List.length_nil]
        clear hb8 HLI HG7 HLS hsn hsm hb0
        generalize E7.tagOf = tg at *
        generalize E7.snaps = sn at *
        have hcnt := HCNT.out
        have hln : (sn.length : Int) = (all.length : Int) - (gone.length : Int) := by omega
        have hneq : ((sn.length : Int) != (all.length : Int) - (gone.length : Int)) = false := by simp [hln]
        have hsn6 : sn.length ≤ 6 := by have := HLE.out; omega
        clear hln hcnt hsl
        go_wp2
        go_loopw [128] (fun iv wr => ∃ i : Nat, iv = .int .i64 (i : Nat) ∧ i ≤ sn.length ∧ Hid (GI w wr b E7 (.slice Aa all.length cca) (.slice Ag gone.length cg) all gone ∧ SnA wr As tg sn)) (fun iv _ => sn.length - (intOf iv).toNat)
        case atStart => exact ⟨0, rfl, Nat.zero_le _, Lib.hid ⟨HG8.out, HSN.out⟩⟩
        case round =>
          clear HG8 HSN
          obtain ⟨i, rfl, hi, HG8⟩ := hrel
          by_cases hil : i < sn.length
          · obtain ⟨gs, rfl, hgs, hh⟩ := HG8.out.2 (by omega)
            obtain ⟨p0, p1, p2⟩ := sn_cells hh hil
            have HNI := Lib.hid (show sn[i].id ∉ gone from (HSUB.out _ (HIN.out _ (List.getElem_mem hil))).2)
            clear hh
            generalize sn[i] = x at *
            obtain ⟨xt, xi, xok⟩ := x
            simp only at p0 p1 p2 HNI
            have hbx := (Below.refl wr.heap.size wr).alloc (Nat.le_refl _) (.cells #[.string xi, .int .i64 xt, .string (tg xi)] 38)
            have HX := Lib.hid (show (GI w (wr.alloc (.cells #[.string xi, .int .i64 xt, .string (tg xi)] 38)) b E7 (.slice Aa all.length cca) (.slice Ag gone.length cg) all gone ∧ SnA (wr.alloc (.cells #[.string xi, .int .i64 xt, .string (tg xi)] 38)) (some ⟨gs, 0, none⟩) tg sn) ∧ Blk (wr.alloc (.cells #[.string xi, .int .i64 xt, .string (tg xi)] 38)) wr.heap.size 38 #[.string xi, .int .i64 xt, .string (tg xi)] from ⟨⟨HG8.out.1.up hbx, HG8.out.2.up hbx⟩, Blk.new _ _ _⟩)
            clear hbx HG8
            obtain ⟨wo, rfl⟩ : ∃ wo : World, wo = wr := ⟨_, rfl⟩
            go_wp2
            go_loopw [134] (fun jv wr => ∃ j : Nat, jv = .int .i64 (j : Nat) ∧ j ≤ gone.length ∧ Hid ((GI w wr b E7 (.slice Aa all.length cca) (.slice Ag gone.length cg) all gone ∧ SnA wr (some ⟨gs, 0, none⟩) tg sn) ∧ Blk wr wo.heap.size 38 #[.string xi, .int .i64 xt, .string (tg xi)])) (fun jv _ => gone.length - (intOf jv).toNat)
            case atStart => exact ⟨0, rfl, Nat.zero_le _, HX⟩
            case round =>
              clear HX
              obtain ⟨j, rfl, hj, HX⟩ := hrel
              have hg6 := HLE.out.1
              by_cases hjl : j < gone.length
              · obtain ⟨Ag2, cg2, e2, hst, _⟩ := HX.out.1.1.formG
                obtain ⟨rfl, _, rfl⟩ : Ag2 = Ag ∧ gone.length = gone.length ∧ cg2 = cg := by
                  simp only [Value.slice.injEq] at e2
                  exact ⟨e2.1.symm, rfl, e2.2.2.symm⟩
                obtain ⟨gg, og, rfl, hgg, hcc⟩ := hst (by omega)
                have cs2 := hcc j _ (List.getElem?_eq_getElem hjl)
                have hne : xi ≠ gone[j] := fun e => HNI.out (e ▸ List.getElem_mem hjl)
                have c0 : wr.cell? ⟨wo.heap.size, 0, none⟩ = some (.string xi) := HX.out.2.cell 0
                clear hcc hst e2
                generalize gone[j] = y at *
                have hq : (xi.toList == y.toList) = false := by rw [str_eqb, decide_eq_false hne]
                clear hne
                go_wp2
                go_roundw
                case rel => exact ⟨j + 1, by go_num, by omega, HX⟩
                case measure => simp [intOf]; omega
              · obtain rfl : j = gone.length := by omega
                have HG9 := Lib.hid HX.out.1
                clear HX
                go_wp2
                go_roundw
                case rel => exact ⟨i + 1, by go_num, by omega, HG9⟩
                case measure => simp [intOf]; omega
          · obtain rfl : i = sn.length := by omega
            have HG9 := Lib.hid (And.intro (G3.zero (l := l) (all := all) HC2.out fun x hx => (HSUB.out x hx).1) HG8.out.1)
            clear HG8 HC2
            have HAF := Lib.hid HG.out.full
            go_wp2
            go_loopw [24] (fun iv wr => ∃ (i : Nat) (E : Dk), iv = .int .i64 (i : Nat) ∧ i ≤ l.length ∧ i ≤ 6 ∧ Hid (G3 l i E all left ∧ GI w wr b E (.slice Aa all.length cca) (.slice Ag gone.length cg) all gone)) (fun iv _ => 6 - (intOf iv).toNat)
            case atStart => exact ⟨0, E7, rfl, by omega, by omega, HG9⟩
            case round =>
              clear HG9
              obtain ⟨i, E, rfl, hil, hi6, HG9⟩ := hrel
              by_cases hlt : i < l.length ∧ i < 6
              · obtain ⟨j1, j2⟩ := hlt
                obtain ⟨g, o, rfl, hg, hcc⟩ := HM.out _ HG9.out.2.bel (by omega)
                obtain ⟨B, c, hcells, hin⟩ := hcc i _ (List.getElem?_eq_getElem j1)
                have q0 : wr.cell? ⟨g, o + i * 5, none⟩ = some (.int .i64 l[i].time) := hcells 0 _ rfl
                have q1 : wr.cell? ⟨g, o + i * 5 + 1, none⟩ = some (.string l[i].tag) := hcells 1 _ rfl
                have q2 : wr.cell? ⟨g, o + i * 5 + 2, none⟩ = some (.string l[i].parent) := hcells 2 _ rfl
                have q3 : wr.cell? ⟨g, o + i * 5 + 3, none⟩ = some (.int .i64 l[i].size) := hcells 3 _ rfl
                have q4 : wr.cell? ⟨g, o + i * 5 + 4, none⟩ = some (.slice B l[i].chunks.length c) := hcells 4 _ rfl
                have HF := Lib.hid (mfew_any l[i] B c wr hin.1 hin.2.1 hin.2.2.1 hin.2.2.2.1)
                have HMB := Lib.hid (hin.2.2.2.2.few)
                have HSM := Lib.hid (small_rest (n := 300000) HG9.out.1.rest (by omega))
                have HMP := Lib.hid (mpublish_rest HG9.out.1.rest (by omega) l[i])
                have HST := Lib.hid (HG9.out.1.step j1 fun hg => HAF.out i j1 (HDN.out i j1 j2) hg)
                have HG10 := Lib.hid HG9.out.2
                clear hcc hcells hin HG9
                unfold manV at HF
                unfold FewPost manV at HF
                generalize fewM l[i] = fm at *
                generalize l[i] = m at *
                obtain ⟨wo, rfl⟩ : ∃ wo : World, wo = wr := ⟨_, rfl⟩
                go_wp2_with fail
                refine HF.out.mono ?_
                rintro e w9 ⟨A2, c2, rfl, hst2, hb2, hc2, _⟩
                have HGI2 := Lib.hid (HG10.out.up hb2)
                have HPB := Lib.hid (HGI2.out.disk fun L h1 => mpublish_any b E L fm A2 c2 w9 h1 (HE.out _ HGI2.out.bel) hst2 HMB.out hc2 HSM.out)
                clear hst2 hb2 hc2 HG10 HMB HSM HF q0 q1 q2 q3 q4
                rw [HMP.out] at HPB
                unfold manV at HPB
                have HPC := Lib.hid (HPB.out.mono fun (e : Ending) w' ⟨h1, h2⟩ => (show ∃ s c, e = Ending.returned (.tuple #[.string s, .int .i64 c]) ∧ GI w w' b (E.pubM fm) (.slice Aa all.length cca) (.slice Ag gone.length cg) all gone from ⟨_, _, h1, h2⟩))
                clear HPB HMP
                go_wp2_with fail
                refine HPC.out.mono ?_
                rintro e w10 ⟨rs, rc, rfl, hg3⟩
                have HG11 := Lib.hid (And.intro HST.out hg3)
                clear hg3 HPC HGI2 HST
                go_wp2
                go_roundw
                case rel => exact ⟨i + 1, _, by go_num, by omega, by omega, HG11⟩
                case measure => simp [intOf]; omega
              · have HDN2 := Lib.hid (show ∀ j, j < l.length → j < 6 → j < i from fun j h1 h2 => by omega)
                have HC3 := Lib.hid (HG9.out.1.done HG.out HDN2.out)
                have HLS := Lib.hid (HC3.out.listed HG.out.nd)
                have HLI := Lib.hid (show Calls Tryz.prog 11 #[.pointer (some ⟨b, 0, none⟩)] wr fun e w' => MListPost E wr e w' from by
                  obtain ⟨L, q1, q2, _⟩ := HG9.out.2
                  exact mlist_any b E L wr q1 (HE.out _ q2) HC3.out.rest.calm.dead (by have := HC3.out.rest.calm.num; omega))
                have HBB := Lib.hid HG9.out.2.bel
                obtain ⟨_, hsl2, _⟩ := HLS.out
                unfold MListPost at HLI
                generalize E.snaps = sn2 at *
                generalize E.bads = bd2 at *
                have hq2 : ((sn2.length : Int) == (all.length : Int)) = true := by simp [hsl2]
                clear HLS HC3 HG9 hsl2
                rcases (by omega : ¬ i < l.length ∨ (i < l.length ∧ ¬ i < 6)) with j1 | ⟨j1, j2⟩
                all_goals try (exfalso; omega)
                all_goals
                  clear hlt
                  go_wp2_with fail
                  refine HLI.out.mono ?_
                  rintro e w9 ⟨As2, cs2, Bb2, db2, rfl, _, _, _, _, _, _, hb9⟩
                  have HB9 := Lib.hid (HBB.out.trans (hb9.mono HBB.out.size))
                  clear hb9 HLI HBB
                  have HAW := Lib.hid (awake19_any w9 (HE.out _ HB9.out))
                  go_wp2_with fail
                  refine HAW.out.mono ?_
                  rintro e w10 ⟨rfl, hb10⟩
                  have HB10 := Lib.hid (HB9.out.trans (hb10.mono HB9.out.size))
                  clear hb10 HAW HB9
                  go_wp2
                  go_ret
                  exact ⟨rfl, HB10.out⟩
theorem goes_card (l : List Man) (v : Value) (bl : List Bool) (bv : Value) (ks : List Int) (kv : Value) (w : World) (he : Env w) (hp : MansP w v l) (hb : RowBool w bv bl) (hk : KsP w kv ks) :
    Calls Tryz.prog 5 #[v, bv, kv] w fun e w' => e = .returned (.bool true) ∧ Below w.heap.size w w' := by
  obtain ⟨A, c, rfl, hi, hl⟩ := hp
  exact goes_all A c l bv bl kv ks w he hi hl hb hk
end Go.Proofs.YtpeepdkeicgkiaaGreatDoor
