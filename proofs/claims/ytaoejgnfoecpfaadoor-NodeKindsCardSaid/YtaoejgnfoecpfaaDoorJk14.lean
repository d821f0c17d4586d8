/- A tree's nodes: the document's Read, walked. -/
import Derived.Test.YtaoejgnfoecpfaaDoorJk11
import Derived.Deep.DeepCutAuto
namespace Go.Proofs.YtaoejgnfoecpfaaDoor
set_option linter.unusedVariables false
set_option linter.unusedSimpArgs false
set_option linter.unusedSectionVars false
open Go.RowKit

theorem restE_at (k : Nat) (a : ByteArray) (m t : Nat) (s : ByteArray) (e : Nat) : (restE k a m t s e).1.at_ = a := by
  unfold restE
  split
  · rfl
  · split <;> rfl
theorem nodeE_at (s : ByteArray) (e : Nat) : (nodeE s e).1.at_.size ≤ s.size := by
  unfold nodeE
  rw [restE_at]
  exact Nat.le_trans (takE_le _ _ _).1 (Nat.le_trans (numE_le _ _).2 (numE_le _ _).2)
theorem nodesE_at : ∀ (n : Nat) (s : ByteArray) (e : Nat), ∀ x ∈ (nodesE n s e).1, x.at_.size ≤ s.size
  | 0, _, _, x, hx => by simp [nodesE] at hx
  | n + 1, s, e, x, hx => by
    simp only [nodesE] at hx
    split at hx
    · simp at hx
    · rcases List.mem_cons.1 hx with rfl | hx
      · exact nodeE_at s e
      · exact Nat.le_trans (nodesE_at n _ _ x hx) (nodeE_size s e)
theorem rest2_kind (k : Nat) (a : ByteArray) (m t : Nat) (s : ByteArray) (e : Nat) : (rest2 k a m t s e).1.kind = k := by
  unfold rest2
  split
  · next h => unfold restE; rw [if_pos rfl, h]; rfl
  · rfl
/-- one record of the document's loop: what it must come to -/
structure Rd5 (s : ByteArray) (k : Nat) (a : ByteArray) (m t : Nat) (s5 : ByteArray) (e5 : Nat) : Prop where
  nd : nodeE s 0 = restE k a m t s5 e5
  sz : s5.size ≤ s.size
  kz : k ≤ 1099511627776
set_option maxRecDepth 100000 in
set_option maxHeartbeats 12800000 in
theorem nread_any (s : ByteArray) (w : World) (hs : s.size ≤ 1000000) :
    Calls Tryd.prog 23 #[.string s] w (DecRPost s w) := by
  rcases h1 : numE s 0 with ⟨n1, s1, e1⟩
  have z1 := numE_le s 0
  rw [h1] at z1
  simp only at z1
  have C1 := Lib.hid fun W hr => cnum_any w.heap.size s 0 W hr (by omega)
  rw [h1] at C1
  have HR0 := Lib.hid (show RdC (w.alloc (.cells #[.string s, .int .i64 0] 117)) w.heap.size s 0 from Blk.new w 117 #[.string s, .int .i64 0])
  have HB0 := Lib.hid ((Below.refl w.heap.size w).alloc (Nat.le_refl _) (.cells #[.string s, .int .i64 0] 117))
  have H1 := Lib.hid h1
  clear h1
  go_enter Tryd.func23, Tryd.ntmps23
  go_wp2_with fail
  refine (C1.out _ HR0.out).mono ?_
  rintro e w1 ⟨rfl, hr1, ho1⟩
  have HR1 := Lib.hid hr1
  have hb1 := HB0.out.trans ((show Below w.heap.size (w.alloc (.cells #[.string s, .int .i64 0] 117)) w1 from ho1.below (by simp) (fun k hk => by omega)))
  have HB1 := Lib.hid hb1
  have hz1 : w.heap.size + 1 ≤ w1.heap.size := Nat.le_trans (by simp) ho1.size
  have c1 : w1.cell? ⟨w.heap.size, 1, none⟩ = some (.int .i64 e1) := Blk.cell hr1 1
  clear hr1 ho1 hb1 HR0 HB0 C1
  by_cases hbig : e1 = 0 ∧ 200 < n1
  · have HX := Lib.hid (decN_big H1.out hbig)
    obtain ⟨rfl, hn⟩ := hbig
    have hq : (200 : Int) < (n1 : Int) := by omega
    go_wp2
    go_ret2
    unfold DecRPost
    rw [HX.out]
    exact ⟨none, 0, rfl, fun h => absurd h (by simp), HB1.out, Nat.le_refl _⟩
  · rcases h2 : nodesE n1 s1 e1 with ⟨l2, s2, e2⟩
    have HX := Lib.hid (decN_of H1.out hbig h2)
    have H2 := Lib.hid h2
    have hnl := nodesE_len n1 s1 e1
    rw [h2] at hnl
    simp only at hnl
    have hcs : ((e1 : Int) == 0) = false ∨ (((e1 : Int) == 0) = true ∧ ¬ (200 : Int) < (n1 : Int)) := by
      by_cases h0 : e1 = 0
      · exact .inr ⟨by rw [beq_iff_eq]; omega, fun h => hbig ⟨h0, by omega⟩⟩
      · exact .inl (by rw [beq_eq_false_iff_ne]; omega)
    clear h2 hbig H1
    go_upto_region 3 with fail
    go_cut [24] (fun v wc => v = .bool false ∧ w1 = wc)
    case first =>
      rcases hcs with hq | ⟨hq, hq2⟩
      all_goals
        go_wp2
        go_meet
        first
          | exact ⟨rfl, rfl⟩
          | exact ⟨by rw [decide_eq_false (by omega)], rfl⟩
    case rest =>
      obtain ⟨rfl, rfl⟩ := hcut
      clear hcs
      go_upto_region 5 with fail
      have HOW0 := Lib.hid (show (w1.alloc (.cells #[] 72)).ownsRow (w.heap.size + 1) 72 7 (.slice (some ⟨w1.heap.size, 0, none⟩) 0 0) 0 (recsC []) from World.ownsRow_lit (e := 72) (size := 7) (base := w.heap.size + 1) w1 #[] 0 hz1 (by decide) rfl)
      have HRA := Lib.hid (Blk.alloc HR1.out (.cells #[] 72))
      have HBA := Lib.hid (HB1.out.alloc HB1.out.size (.cells #[] 72))
      go_wp2
      go_loopw [6] (fun ov wr => ∃ (rs : List (Nr × Option Addr × Nat)) (A : Option Addr) (c : Nat) (s' : ByteArray) (e' n : Nat), ov = .slice A rs.length c ∧ RdC wr w.heap.size s' e' ∧ wr.ownsRow (w.heap.size + 1) 72 7 (.slice A rs.length c) rs.length (recsC rs) ∧ RecsV wr (fun k => k ≠ w.heap.size ∧ (Value.slice A rs.length c).ownBlock ≠ some k) rs ∧ Below w.heap.size w wr ∧ l2 = rs.map (·.1) ++ (nodesE n s' e').1 ∧ (s2, e2) = (nodesE n s' e').2 ∧ rs.length + n = n1 ∧ s'.size ≤ s.size ∧ w.heap.size + 1 ≤ wr.heap.size ∧ rs.length ≤ c) (fun ov _ => n1 - (match ov with | .slice _ n _ => n | _ => 0))
      case atStart => exact ⟨[], _, 0, s1, e1, n1, rfl, HRA.out, HOW0.out, (fun r hr => by cases hr), HBA.out, by rw [H2.out]; rfl, by rw [H2.out], by simp, z1.2, by simp; omega, Nat.le_refl _⟩
      case round =>
        obtain ⟨rs, A, c, s', e', n, rfl, hrr, hown, hnv, hbb, hl1, hl2, hln, hs', hzr, hcap⟩ := hrel
        have HRR := Lib.hid hrr
        have HNV := Lib.hid hnv
        have HBB := Lib.hid hbb
        have HL := Lib.hid (And.intro hl1 hl2)
        have HOW := Lib.hid hown
        have HN2 := H2
        have c1 : wr.cell? ⟨w.heap.size, 1, none⟩ = some (.int .i64 e') := Blk.cell hrr 1
        have c0 : wr.cell? ⟨w.heap.size, 0, none⟩ = some (.string s') := Blk.cell hrr 0
        clear hrr hnv hbb hl1 hl2 hown H2 HR1 HB1 HOW0 HRA HBA
        by_cases hgo : rs.length < n1 ∧ e' = 0
        · obtain ⟨hn0, rfl⟩ := hgo
          obtain ⟨n, rfl⟩ : ∃ j, n = j + 1 := ⟨n - 1, by omega⟩
          have hq5 : (rs.length : Int) < (n1 : Int) := by omega
          obtain ⟨wo, rfl⟩ : ∃ wo : World, wo = wr := ⟨_, rfl⟩
          have hgp : w.heap.size < wo.heap.size := by omega
          rcases h3 : numE s' 0 with ⟨k, s3, e3⟩
          rcases h4 : numE s3 e3 with ⟨la, s4, e4⟩
          rcases h5 : takE s4 e4 la with ⟨a, s5, e5⟩
          rcases h6 : numE s5 e5 with ⟨m, s6, e6⟩
          rcases h7 : numE s6 e6 with ⟨t, s7, e7⟩
          have HNO := Lib.hid (nodeE_of h3 h4 h5 h6 h7)
          have y3 := numE_le s' 0
          have y4 := numE_le s3 e3
          have y5 := takE_le s4 e4 la
          have y6 := numE_le s5 e5
          have y7 := numE_le s6 e6
          rw [h3] at y3
          rw [h4] at y4
          rw [h5] at y5
          rw [h6] at y6
          rw [h7] at y7
          simp only at y3 y4 y5 y6 y7
          have D3 := Lib.hid fun W hr => cnum_any w.heap.size s' 0 W hr (by omega)
          have D4 := Lib.hid fun W hr => cnum_any w.heap.size s3 e3 W hr (by omega)
          have D5 := Lib.hid fun W hr => ctake_any w.heap.size s4 e4 la W hr (by omega) (by omega)
          have D6 := Lib.hid fun W hr => cnum_any w.heap.size s5 e5 W hr (by omega)
          have D7 := Lib.hid fun W hr => cnum_any w.heap.size s6 e6 W hr (by omega)
          rw [h3] at D3
          rw [h4] at D4
          rw [h5] at D5
          rw [h6] at D6
          rw [h7] at D7
          have hs7 : s7.size ≤ s.size := by omega
          have hkz : k ≤ 1099511627776 := by omega
          have hlan : la ≤ 1099511627776 := by omega
          clear h3 h4 h5 h6 h7 y3 y4 y5 y6 y7
          go_upto_region 8 with fail
          have HP0 := Lib.hid (Blk.new wo 72 #[.int .i64 0, .string ⟨#[]⟩, .int .i64 0, .int .i64 0, .int .i64 0, .slice none 0 0, .string ⟨#[]⟩])
          have HR0 := Lib.hid (show RdC (wo.alloc (.cells #[.int .i64 0, .string ⟨#[]⟩, .int .i64 0, .int .i64 0, .int .i64 0, .slice none 0 0, .string ⟨#[]⟩] 72)) w.heap.size s' 0 from Blk.alloc HRR.out _)
          have HG0 := Lib.hid (show GoR w.heap.size wo (wo.alloc (.cells #[.int .i64 0, .string ⟨#[]⟩, .int .i64 0, .int .i64 0, .int .i64 0, .slice none 0 0, .string ⟨#[]⟩] 72)) from Touch.alloc _ wo _)
          generalize wo.alloc (.cells #[.int .i64 0, .string ⟨#[]⟩, .int .i64 0, .int .i64 0, .int .i64 0, .slice none 0 0, .string ⟨#[]⟩] 72) = wa at *
          go_wp2_with fail
          refine (D3.out _ HR0.out).mono ?_
          rintro e wb ⟨rfl, hr, hg⟩
          have HRxa := Lib.hid hr
          have HPxa := Lib.hid ((hg : GoR w.heap.size _ wb).blk HP0.out (by omega))
          have HGxa := Lib.hid (HG0.out.next hg)
          clear hr hg
          have cca : wb.cell? ⟨wo.heap.size, 0, none⟩ = some (.int .i64 0) := HPxa.out.cell 0
          have cfa : wb.frozen? ⟨wo.heap.size, 0, none⟩ = false := HPxa.out.frozen 0
          have HPsa := Lib.hid (show Blk (wb.setCell ⟨wo.heap.size, 0, none⟩ (.int .i64 k)) wo.heap.size 72 #[.int .i64 k, .string ⟨#[]⟩, .int .i64 0, .int .i64 0, .int .i64 0, .slice none 0 0, .string ⟨#[]⟩] by have := HPxa.out.set_ 0 (.int .i64 k); simpa using this)
          have HRsa := Lib.hid (HRxa.out.far (i := 0) (p := wo.heap.size) (by omega) (.int .i64 k))
          have HGsa := Lib.hid (HGxa.out.setP (i := 0) (p := wo.heap.size) (Nat.le_refl _) (.int .i64 k))
          go_wp2_with fail
          refine (D4.out _ HRsa.out).mono ?_
          rintro e wc ⟨rfl, hr, hg⟩
          have HRxb := Lib.hid hr
          have HPxb := Lib.hid ((hg : GoR w.heap.size _ wc).blk HPsa.out (by omega))
          have HGxb := Lib.hid (HGsa.out.next hg)
          clear hr hg
          clear cca cfa
          go_wp2_with fail
          refine (D5.out _ HRxb.out).mono ?_
          rintro e wd ⟨rfl, hr, hg⟩
          have HRxc := Lib.hid hr
          have HPxc := Lib.hid (((GoR.only hg) : GoR w.heap.size _ wd).blk HPxb.out (by omega))
          have HGxc := Lib.hid (HGxb.out.next (GoR.only hg))
          clear hr hg
          have ccc : wd.cell? ⟨wo.heap.size, 1, none⟩ = some (.string ⟨#[]⟩) := HPxc.out.cell 1
          have cfc : wd.frozen? ⟨wo.heap.size, 1, none⟩ = false := HPxc.out.frozen 1
          have HPsc := Lib.hid (show Blk (wd.setCell ⟨wo.heap.size, 1, none⟩ (.string a)) wo.heap.size 72 #[.int .i64 k, .string a, .int .i64 0, .int .i64 0, .int .i64 0, .slice none 0 0, .string ⟨#[]⟩] by have := HPxc.out.set_ 1 (.string a); simpa using this)
          have HRsc := Lib.hid (HRxc.out.far (i := 1) (p := wo.heap.size) (by omega) (.string a))
          have HGsc := Lib.hid (HGxc.out.setP (i := 1) (p := wo.heap.size) (Nat.le_refl _) (.string a))
          go_wp2_with fail
          refine (D6.out _ HRsc.out).mono ?_
          rintro e we ⟨rfl, hr, hg⟩
          have HRxd := Lib.hid hr
          have HPxd := Lib.hid ((hg : GoR w.heap.size _ we).blk HPsc.out (by omega))
          have HGxd := Lib.hid (HGsc.out.next hg)
          clear hr hg
          clear ccc cfc
          have ccd : we.cell? ⟨wo.heap.size, 2, none⟩ = some (.int .i64 0) := HPxd.out.cell 2
          have cfd : we.frozen? ⟨wo.heap.size, 2, none⟩ = false := HPxd.out.frozen 2
          have HPsd := Lib.hid (show Blk (we.setCell ⟨wo.heap.size, 2, none⟩ (.int .i64 m)) wo.heap.size 72 #[.int .i64 k, .string a, .int .i64 m, .int .i64 0, .int .i64 0, .slice none 0 0, .string ⟨#[]⟩] by have := HPxd.out.set_ 2 (.int .i64 m); simpa using this)
          have HRsd := Lib.hid (HRxd.out.far (i := 2) (p := wo.heap.size) (by omega) (.int .i64 m))
          have HGsd := Lib.hid (HGxd.out.setP (i := 2) (p := wo.heap.size) (Nat.le_refl _) (.int .i64 m))
          go_wp2_with fail
          refine (D7.out _ HRsd.out).mono ?_
          rintro e wf ⟨rfl, hr, hg⟩
          have HRxe := Lib.hid hr
          have HPxe := Lib.hid ((hg : GoR w.heap.size _ wf).blk HPsd.out (by omega))
          have HGxe := Lib.hid (HGsd.out.next hg)
          clear hr hg
          clear ccd cfd
          have cce : wf.cell? ⟨wo.heap.size, 3, none⟩ = some (.int .i64 0) := HPxe.out.cell 3
          have cfe : wf.frozen? ⟨wo.heap.size, 3, none⟩ = false := HPxe.out.frozen 3
          have HPse := Lib.hid (show Blk (wf.setCell ⟨wo.heap.size, 3, none⟩ (.int .i64 t)) wo.heap.size 72 #[.int .i64 k, .string a, .int .i64 m, .int .i64 t, .int .i64 0, .slice none 0 0, .string ⟨#[]⟩] by have := HPxe.out.set_ 3 (.int .i64 t); simpa using this)
          have HRse := Lib.hid (HRxe.out.far (i := 3) (p := wo.heap.size) (by omega) (.int .i64 t))
          have HGse := Lib.hid (HGxe.out.setP (i := 3) (p := wo.heap.size) (Nat.le_refl _) (.int .i64 t))
          go_upto_region 12 with fail
          have HPG := Lib.hid (show Blk (wf.setCell ⟨wo.heap.size, 3, none⟩ (.int .i64 t)) wo.heap.size 72 (recC (pre0 k a m t) none 0) from HPse.out)
          have HRG := HRse
          have HGG := HGse
          clear HPxe HRxe HGxe HPsd HRsd HGsd HPxd HRxd HGxd HPsc HRsc HGsc HPxc HRxc HGxc HPxb HRxb HGxb HPsa HRsa HGsa HPxa HRxa HGxa HP0 HR0 HG0 D3 D4 D5 D6 D7 cce cfe
          clear HPse HRse HGse
          generalize wf.setCell ⟨wo.heap.size, 3, none⟩ (.int .i64 t) = wg at *
          obtain ⟨bad, hbad⟩ : ∃ bad : Bool, bad = (decide (e7 = 0) && (decide ((k : Int) < 1) || decide (3 < (k : Int)))) := ⟨_, rfl⟩
          have HBD := Lib.hid hbad
          clear hbad
          go_cut [66] (fun v wc => v = .bool bad ∧ wc = wg)
          case first =>
            have ce : wg.cell? ⟨w.heap.size, 1, none⟩ = some (.int .i64 e7) := HRG.out.cell 1
            have ck : wg.cell? ⟨wo.heap.size, 0, none⟩ = some (.int .i64 k) := HPG.out.cell 0
            by_cases he7 : e7 = 0
            · subst he7
              rcases (by omega : (k : Int) < 1 ∨ (¬ (k : Int) < 1 ∧ 3 < (k : Int)) ∨ (¬ (k : Int) < 1 ∧ ¬ 3 < (k : Int))) with q1 | ⟨q1, q2⟩ | ⟨q1, q2⟩
              · have HV := Lib.hid (show bad = true by rw [HBD.out, decide_eq_true q1]; rfl)
                go_wp2
                go_meet
                exact ⟨by rw [HV.out], rfl⟩
              · have HV := Lib.hid (show bad = true by rw [HBD.out, decide_eq_true q2, Bool.or_true]; rfl)
                go_wp2
                go_meet
                exact ⟨by rw [HV.out], rfl⟩
              · have HV := Lib.hid (show bad = false by rw [HBD.out, decide_eq_false q1, decide_eq_false q2]; rfl)
                go_wp2
                go_meet
                exact ⟨by rw [HV.out], rfl⟩
            · have q0 : ((e7 : Int) == 0) = false := by rw [beq_eq_false_iff_ne]; omega
              have HV := Lib.hid (show bad = false by rw [HBD.out, decide_eq_false he7, Bool.false_and])
              clear he7
              go_wp2
              go_meet
              exact ⟨by rw [HV.out], rfl⟩
          case rest =>
            obtain ⟨rfl, rfl⟩ := hcut
            go_upto_if 66 with fail
            go_cut [] (fun wx => RdC wx w.heap.size s7 (err0 k e7) ∧ Blk wx wo.heap.size 72 (recC (pre0 k a m t) none 0) ∧ GoR w.heap.size wo wx)
            case first =>
              cases bad with
              | true =>
                have HV := Lib.hid (show err0 k e7 = 3 by
                  have h := HBD.out
                  simp only [Bool.true_eq, Bool.and_eq_true, Bool.or_eq_true, decide_eq_true_eq] at h
                  unfold err0 failE
                  rw [if_neg (by omega), if_pos h.1])
                have ce : wc.cell? ⟨w.heap.size, 1, none⟩ = some (.int .i64 e7) := HRG.out.cell 1
                have cf : wc.frozen? ⟨w.heap.size, 1, none⟩ = false := HRG.out.frozen 1
                clear HBD
                go_wp2
                go_meet
                exact ⟨(HRG.out.setE 3).same rfl HV.out.symm, Blk.far HPG.out (by simp; omega) _, HGG.out.set _⟩
              | false =>
                have HV := Lib.hid (show err0 k e7 = e7 by
                  have h := HBD.out.symm
                  simp only [Bool.and_eq_false_iff, Bool.or_eq_false_iff, decide_eq_false_iff_not] at h
                  unfold err0 failE
                  split
                  · rfl
                  · split
                    · omega
                    · rfl)
                clear HBD
                go_wp2
                go_meet
                exact ⟨HRG.out.same rfl HV.out.symm, HPG.out, HGG.out⟩
            case rest =>
              obtain ⟨hrx, hpx, hgx⟩ := hcut
              have HRX := Lib.hid hrx
              have HPX := Lib.hid hpx
              have HGX := Lib.hid hgx
              have ck : wc.cell? ⟨wo.heap.size, 0, none⟩ = some (.int .i64 k) := hpx.cell 0
              clear hrx hpx hgx HRG HPG HGG HBD
              go_upto_if 72 with fail
              go_cut [] (fun wx => RSt wo w.heap.size wo.heap.size (rest2 k a m t s7 e7) wx)
              case first =>
                by_cases hk2 : k = 2
                · subst hk2
                  rcases h8 : numE s7 e7 with ⟨z, s8, e8⟩
                  rcases h9 : numE s8 e8 with ⟨c9, s9, e9⟩
                  rcases h10 : chE c9 s9 e9 with ⟨lx, sx, ex⟩
                  have y8 := numE_le s7 e7
                  have y9 := numE_le s8 e8
                  rw [h8] at y8
                  rw [h9] at y9
                  simp only at y8 y9
                  have HX2 := Lib.hid (show rest2 2 a m t s7 e7 = (⟨2, a, m, t, z, lx, noB⟩, sx, ex) by unfold rest2; rw [if_pos rfl]; exact restE_two h8 h9 h10)
                  have H10 := Lib.hid h10
                  have D8 := Lib.hid fun W hr => cnum_any w.heap.size s7 e7 W hr (by omega)
                  have D9 := Lib.hid fun W hr => cnum_any w.heap.size s8 e8 W hr (by omega)
                  rw [h8] at D8
                  rw [h9] at D9
                  clear h8 h9 h10
                  obtain ⟨i0, hi0, hz0', hz1', hz2⟩ := info_parts infoS
                  have HRY := Lib.hid (HRX.out.same rfl (show err0 2 e7 = e7 from rfl))
                  go_wp2_with fail
                  refine (D8.out _ HRY.out).mono ?_
                  rintro e wy ⟨rfl, hr, hg⟩
                  have HRy := Lib.hid hr
                  have HPy := Lib.hid (hg.blk HPX.out (by omega))
                  have HGy := Lib.hid (HGX.out.next hg)
                  clear hr hg ck
                  have cc4 : wy.cell? ⟨wo.heap.size, 4, none⟩ = some (.int .i64 0) := HPy.out.cell 4
                  have cf4 : wy.frozen? ⟨wo.heap.size, 4, none⟩ = false := HPy.out.frozen 4
                  have HPz := Lib.hid (show Blk (wy.setCell ⟨wo.heap.size, 4, none⟩ (.int .i64 z)) wo.heap.size 72 (recC ⟨2, a, m, t, z, [], noB⟩ none 0) by have := HPy.out.set_ 4 (.int .i64 z); simpa [recC, pre0] using this)
                  have HRz := Lib.hid (HRy.out.far (i := 4) (p := wo.heap.size) (by omega) (.int .i64 z))
                  have HGz := Lib.hid (HGy.out.setP (i := 4) (p := wo.heap.size) (Nat.le_refl _) (.int .i64 z))
                  go_wp2_with fail
                  refine (D9.out _ HRz.out).mono ?_
                  rintro e wq ⟨rfl, hr, hg⟩
                  have HRq := Lib.hid hr
                  have HPq := Lib.hid (hg.blk HPz.out (by omega))
                  have HGq := Lib.hid (HGz.out.next hg)
                  have hzq : wo.heap.size + 1 ≤ wq.heap.size := Blk.lt HPq.out
                  clear hr hg cc4 cf4 HRy HPy HGy HRz HPz HGz D8 D9 HRY HRX HPX HGX
                  go_wp2
                  go_loopw [9] (fun i wr => ∃ (j n : Nat) (acc : List ByteArray) (B : Option Addr) (cur : Nat) (s0 : ByteArray) (e0 : Nat), i = .int .i64 (j : Nat) ∧ j + n = c9 ∧ RdC wr w.heap.size s0 e0 ∧ Blk wr wo.heap.size 72 (recC ⟨2, a, m, t, z, acc, noB⟩ B cur) ∧ wr.ownsRow (wo.heap.size + 1) 9 1 (.slice B acc.length cur) acc.length (strsV acc) ∧ GoR w.heap.size wo wr ∧ lx = acc ++ (chE n s0 e0).1 ∧ (sx, ex) = (chE n s0 e0).2 ∧ acc.length + n ≤ 1099511627776 ∧ s0.size ≤ 1099511627776 ∧ wo.heap.size + 1 ≤ wr.heap.size) (fun i _ => c9 - (intOf i).toNat)
                  case atStart => exact ⟨0, c9, [], none, 0, s9, e9, rfl, by omega, HRq.out, HPq.out, ⟨rfl, Or.inl ⟨rfl, rfl⟩⟩, HGq.out, by rw [H10.out]; rfl, by rw [H10.out], by simp; omega, by omega, hzq⟩
                  case round =>
                    obtain ⟨j, n, acc, B, cur, s0, e0, rfl, hjn, hrr, hpp, hown, hgg, hl1, hl2, hln2, hs0, hzr0⟩ := hrel
                    have HRR2 := Lib.hid hrr
                    have HPP2 := Lib.hid hpp
                    have HGO2 := Lib.hid hgg
                    have HL2 := Lib.hid (And.intro hl1 hl2)
                    have ce1 : wr.cell? ⟨w.heap.size, 1, none⟩ = some (.int .i64 e0) := hrr.cell 1
                    have hpl : wo.heap.size < wr.heap.size := by omega
                    clear hrr hpp hgg hl1 hl2 HRq HPq HGq H10 hzq
                    by_cases hgo2 : j < c9 ∧ e0 = 0
                    · obtain ⟨hj0, rfl⟩ := hgo2
                      obtain ⟨n, rfl⟩ : ∃ i, n = i + 1 := ⟨n - 1, by omega⟩
                      rcases htk : takE s0 0 32 with ⟨tx, s02, e02⟩
                      have hzt := takE_le s0 0 32
                      rw [htk] at hzt
                      simp only at hzt
                      have hT := fun W hr => ctake_any w.heap.size s0 0 32 W hr (by omega) (by decide)
                      rw [htk] at hT
                      have HT := Lib.hid hT
                      have HLS := Lib.hid (show (chE (n + 1) s0 0).1 = tx :: (chE n s02 e02).1 ∧ (chE (n + 1) s0 0).2 = (chE n s02 e02).2 by
                        simp only [chE, htk]
                        simp)
                      have c5 : wr.cell? ⟨wo.heap.size, 5, none⟩ = some (.slice B acc.length cur) := HPP2.out.cell 5
                      have hq7 : (j : Int) < (c9 : Int) := by omega
                      clear htk hT
                      go_upto_region 20 with fail
                      go_region_law (first
                        | (go_simp; go_at_call 74; refine (HT.out _ (Blk.drew HRR2.out)).mono ?_; rintro e wT ⟨rfl, hrT, hoT⟩; have hmT := hoT.far HPP2.out.drew (by omega); have cT : wT.cell? ⟨wo.heap.size, 5, none⟩ = some (.slice B acc.length cur) := hmT.cell 5; have hzT : wr.heap.size ≤ wT.heap.size := Nat.le_of_eq hoT.size.symm; have hltT : wo.heap.size < wT.heap.size := by omega)
                        | (refine step_append_lies _ (by rfl) _ _ _ (by rfl) (wo.heap.size + 1) 9 i0 _ 1 16 Tryd.underlying50 hi0 hz0' hz1' hz2 rfl (by decide) (.slice B acc.length cur) acc.length (strsV acc) (by rfl) ((hown.drew.kept hoT.grown (own_farE hown (by omega))).alloc _) ⟨wT.heap.size, 0, none⟩ 1 1 [.string tx] (by rfl) (by rfl) (World.news_of_block (cs := #[.string tx]) (heap_alloc_new wT _)) (by simp [Value.oneCell']) (by decide) (by unfold maxLen; omega) (by omega) (by simp; omega) _ rfl ?_; intro gx cap w5 hown5 hg5 hat hlt; have hM5 := (hmT.alloc (.cells #[.string tx] 9)).grown hg5 (own_neE hown (by omega)); have c55 : w5.cell? ⟨wo.heap.size, 5, none⟩ = some (.slice B acc.length cur) := hM5.cell 5; have f55 := hM5.frozen 5))
                      all_goals
                        have HM5 := Lib.hid (hM5.set_ 5 (.slice (some ⟨gx, 0, none⟩) (acc.length + 1) cap))
                        have HR8 := Lib.hid (((Blk.alloc hrT (.cells #[.string tx] 9)).grown hg5 (own_neE hown (by omega))).far (p := ⟨wo.heap.size, 5, none⟩) (by simp; omega) (.slice (some ⟨gx, 0, none⟩) (acc.length + 1) cap))
                        have HG8 := Lib.hid (((((HGO2.out.next (Touch.of_below _ ((Below.refl _ wr).drew))).next (GoR.only hoT)).next (Touch.alloc _ wT (.cells #[.string tx] 9))).far hg5 (fun j hj => by have := (hown.lt j hj).1; omega)).trans (Touch.setc w5 wo.heap.size 5 (.slice (some ⟨gx, 0, none⟩) (acc.length + 1) cap)) (fun i hi e => by omega))
                        have HO5 := Lib.hid (hown5.kept (Only.set wo.heap.size 5 w5 (.slice (some ⟨gx, 0, none⟩) (acc.length + 1) cap)).grown (own_farE hown5 (by omega)))
                        have HZ5 := Lib.hid (show wo.heap.size + 1 ≤ w5.heap.size from Nat.le_trans (by simp; omega) hg5.size)
                        clear hM5 hmT hrT hoT hown5 hg5 hat
                        go_wp2
                        go_roundw
                        case rel =>
                          refine ⟨j + 1, n, acc ++ [tx], some ⟨gx, 0, none⟩, cap, s02, e02, by go_num, by omega, HR8.out, ?_, ?_, HG8.out, ?_, by rw [← HLS.out.2]; exact HL2.out.2, by simp; omega, by omega, by rw [World.size_setCell]; exact HZ5.out⟩
                          · have := HM5.out
                            simpa [recC] using this
                          · have := HO5.out
                            simpa [strsV] using this
                          · rw [List.append_assoc, List.singleton_append, ← HLS.out.1]; exact HL2.out.1
                        case measure => simp [intOf]; omega
                    · have hend : chE n s0 e0 = ([], s0, e0) := by
                        cases n with
                        | zero => rfl
                        | succ n => exact chE_bad (fun e => hgo2 ⟨by omega, e⟩) s0 _
                      have hfin := HL2.out
                      rw [hend] at hfin
                      simp only [List.append_nil, Prod.mk.injEq] at hfin
                      obtain ⟨rfl, rfl, rfl⟩ := hfin
                      have HST := Lib.hid (own_strs (l := lx) hown).1
                      have HBK := Lib.hid (show ∀ k o, B = some ⟨k, o, none⟩ → wo.heap.size < k from fun k o e => by subst e; exact (hown.lt k rfl).1)
                      have hcs : ¬ (j : Int) < (c9 : Int) ∨ ((j : Int) < (c9 : Int) ∧ ((ex : Int) == 0) = false) := by
                        by_cases h0 : j < c9
                        · exact .inr ⟨by omega, by rw [beq_eq_false_iff_ne]; intro e; exact hgo2 ⟨h0, by omega⟩⟩
                        · exact .inl (by omega)
                      clear hend HL2 hgo2 hown
                      rcases hcs with hq7 | ⟨hq7, hq8⟩
                      all_goals
                        go_wp2
                        go_meet
                        rw [HX2.out]
                        exact ⟨B, cur, HRR2.out, HPP2.out, HST.out, HBK.out, HGO2.out⟩
                · have hkq : ((k : Int) == 2) = false := by rw [beq_eq_false_iff_ne]; omega
                  have HX2 := Lib.hid (show rest2 k a m t s7 e7 = (pre0 k a m t, s7, err0 k e7) by unfold rest2; rw [if_neg hk2])
                  clear hk2
                  go_wp2
                  go_meet
                  rw [HX2.out]
                  exact ⟨none, 0, HRX.out, HPX.out, (fun h => absurd h (by simp [pre0])), (fun k o e => by cases e), HGX.out⟩
              case rest =>
                have HC2 := Lib.hid hcut
                have ck2 : wc.cell? ⟨wo.heap.size, 0, none⟩ = some (.int .i64 k) := by
                  obtain ⟨B2, cb2, hst2⟩ := HC2.out
                  have := hst2.blk.cell 0
                  rw [this]
                  show some (Value.int .i64 (rest2 k a m t s7 e7).1.kind) = _
                  rw [rest2_kind]
                clear hcut ck HRX HPX HGX
                go_upto_if 99 with fail
                go_cut [] (fun wx => RSt wo w.heap.size wo.heap.size (restE k a m t s7 e7) wx)
                case first =>
                  by_cases hk3 : k = 3
                  · subst hk3
                    obtain ⟨B2, cb2, hst2⟩ := HC2.out
                    have hst3 : RdSt wo wc w.heap.size wo.heap.size (pre0 3 a m t) s7 e7 B2 cb2 := hst2
                    have HS2 := Lib.hid hst3
                    rcases h8 : numE s7 e7 with ⟨n8, s8, e8⟩
                    rcases h9 : takE s8 e8 n8 with ⟨tg, s9, e9⟩
                    have y8 := numE_le s7 e7
                    rw [h8] at y8
                    simp only at y8
                    have HX3 := Lib.hid (restE_three (a := a) (m := m) (t := t) h8 h9)
                    have D8 := Lib.hid fun W hr => cnum_any w.heap.size s7 e7 W hr (by omega)
                    have D9 := Lib.hid fun W hr => ctake_any w.heap.size s8 e8 n8 W hr (by omega) (by omega)
                    rw [h8] at D8
                    rw [h9] at D9
                    clear h8 h9 hst2 hst3 HC2 ck2
                    go_wp2_with fail
                    refine (D8.out _ HS2.out.rd).mono ?_
                    rintro e wy ⟨rfl, hr, hg⟩
                    have HRy := Lib.hid hr
                    have HPy := Lib.hid (hg.blk HS2.out.blk (by omega))
                    have HGy := Lib.hid (HS2.out.go.next hg)
                    clear hr hg
                    go_wp2_with fail
                    refine (D9.out _ HRy.out).mono ?_
                    rintro e wz ⟨rfl, hr, hg⟩
                    have HRz := Lib.hid hr
                    have HPz := Lib.hid ((GoR.only hg).blk HPy.out (by omega))
                    have HGz := Lib.hid (HGy.out.next (GoR.only hg))
                    clear hr hg HRy HPy HGy
                    have cc6 : wz.cell? ⟨wo.heap.size, 6, none⟩ = some (.string ⟨#[]⟩) := HPz.out.cell 6
                    have cf6 : wz.frozen? ⟨wo.heap.size, 6, none⟩ = false := HPz.out.frozen 6
                    have HPf := Lib.hid (show Blk (wz.setCell ⟨wo.heap.size, 6, none⟩ (.string tg)) wo.heap.size 72 (recC ⟨3, a, m, t, 0, [], tg⟩ B2 cb2) by have := HPz.out.set_ 6 (.string tg); simpa [recC, pre0] using this)
                    have HRf := Lib.hid (HRz.out.far (i := 6) (p := wo.heap.size) (by omega) (.string tg))
                    have HGf := Lib.hid (HGz.out.setP (i := 6) (p := wo.heap.size) (Nat.le_refl _) (.string tg))
                    go_wp2
                    go_meet
                    rw [HX3.out]
                    exact ⟨B2, cb2, HRf.out, HPf.out, (fun h => absurd h (by simp)), HS2.out.nw, HGf.out⟩
                  · have hkq : ((k : Int) == 3) = false := by rw [beq_eq_false_iff_ne]; omega
                    have HE2 := Lib.hid (show rest2 k a m t s7 e7 = restE k a m t s7 e7 by
                      by_cases h2 : k = 2
                      · exact (restE_2 h2 a m t s7 e7).symm
                      · exact (restE_1 h2 hk3 a m t s7 e7).symm)
                    clear hk3
                    go_wp2
                    go_meet
                    rw [← HE2.out]
                    exact HC2.out
                case rest =>
                  have HNR := Lib.hid HNO.out
                  clear HC2 ck2 HNO
                  have hstep := nodesE_step (n := n) (s := s')
                  rw [HNR.out] at hstep
                  generalize restE k a m t s7 e7 = r at *
                  obtain ⟨x, sr, er⟩ := r
                  obtain ⟨B, cb, hst⟩ := hcut
                  simp only at hst hstep
                  have HST := Lib.hid hstep
                  have HSR := Lib.hid hst
                  have hsr := nodeE_size s' 0
                  rw [HNR.out] at hsr
                  simp only at hsr
                  have HO2 := Lib.hid (own_atN HOW.out (w' := wc) fun i hi => hst.go.block i (HOW.out.lt i hi).2 (by have := (HOW.out.lt i hi).1; omega))
                  have HV2 := Lib.hid (HNV.out.keep (Q := fun k => k ≠ w.heap.size ∧ (Value.slice A rs.length c).ownBlock ≠ some k) hst.go.size fun k hk hl => ⟨hst.go.block k hl hk.1, hk⟩)
                  have HB2 := Lib.hid (HBB.out.trans (hst.go.below (B := w.heap.size) HBB.out.size (fun k hk => by omega)))
                  have HNW := Lib.hid (show ∀ k o, B = some ⟨k, o, none⟩ → k ≠ w.heap.size ∧ (Value.slice A rs.length c).ownBlock ≠ some k from fun k o e => ⟨by have := hst.nw k o e; omega, fun e2 => by have h1 := (HOW.out.lt k e2).2; have h2 := hst.nw k o e; omega⟩)
                  have hzc : w.heap.size + 1 ≤ wc.heap.size := Nat.le_trans hzr hst.go.size
                  have hbk := hst.blk
                  unfold recC at hbk
                  obtain ⟨⟨b0, b1, b2, b3, b4, b5, b6⟩, _⟩ := blk7' hbk
                  clear hst hstep hbk
                  go_wp2_with (at_builtin; refine wpList_app1 rfl _ _ 22 rfl (w.heap.size + 1) 72 Tryd.underlying22 infoRc rfl (by decide) _ _ _ rfl HO2.out _ rfl rfl (by simp [Value.oneCell']) (by omega) (by omega) (by omega) ?_)
                  intro g5 cap5 w5 ho5 hg5 hb5 hl5
                  have hcp : rs.length + 1 ≤ cap5 := by
                    rcases ho5.2 with ⟨hv, _⟩ | ⟨g, cap, cur, hv, _, _, hc, _⟩
                    · cases hv
                    · injection hv with _ _ hv
                      omega
                  have HO5 := Lib.hid (show w5.ownsRow (w.heap.size + 1) 72 7 (.slice (some ⟨g5, 0, none⟩) (rs ++ [(x, B, cb)]).length cap5) (rs ++ [(x, B, cb)]).length (recsC (rs ++ [(x, B, cb)])) by
                    rw [recsC_snoc]
                    have := ho5
                    simpa [recC] using this)
                  have HB5 := Lib.hid (HB2.out.grown hg5 HB2.out.size fun j hj => by have := (HO2.out.lt j hj).1; omega)
                  have HR5 := Lib.hid (show RdC w5 w.heap.size sr er from Blk.grown HSR.out.rd hg5 (own_neE HO2.out (by omega)))
                  have HV5 := Lib.hid (show RecsV w5 (fun k => k ≠ w.heap.size ∧ (Value.slice (some ⟨g5, 0, none⟩) (rs ++ [(x, B, cb)]).length cap5).ownBlock ≠ some k) (rs ++ [(x, B, cb)]) from by
                    have h1 := HV2.out.snoc (r := (x, B, cb)) HSR.out.st (fun _ k o e => HNW.out k o e)
                    refine h1.keep hg5.size fun k hk hl => ⟨hg5.block k hl (fun e => hk.2 e.symm), hk.1, fun e => ?_⟩
                    simp only [Value.ownBlock, Option.some.injEq] at e
                    subst e
                    rcases hl5 with h | h
                    · exact hk.2 h
                    · omega)
                  have hz5 : w.heap.size + 1 ≤ w5.heap.size := Nat.le_trans hzc hg5.size
                  clear ho5 hg5 hb5 hl5
                  go_wp2
                  go_roundw
                  case rel =>
                    refine ⟨rs ++ [(x, B, cb)], some ⟨g5, 0, none⟩, cap5, sr, er, n, by simp, HR5.out, HO5.out, HV5.out, HB5.out, ?_, ?_, by simp; omega, by omega, hz5, by simp; omega⟩
                    · rw [List.map_append, List.append_assoc]
                      have := HL.out.1
                      rw [HST.out] at this
                      exact this
                    · have := HL.out.2
                      rw [HST.out] at this
                      exact this
                  case measure => simp; omega
        · have hend : nodesE n s' e' = ([], s', e') := by
            cases n with
            | zero => rfl
            | succ n => exact nodesE_bad (fun e => hgo ⟨by omega, e⟩) s' _
          have hfin := HL.out
          rw [hend] at hfin
          simp only [List.append_nil, Prod.mk.injEq] at hfin
          obtain ⟨rfl, rfl, rfl⟩ := hfin
          have hcs : ¬ (rs.length : Int) < (n1 : Int) ∨ ((rs.length : Int) < (n1 : Int) ∧ ((e2 : Int) == 0) = false) := by
            by_cases h0 : rs.length < n1
            · exact .inr ⟨by omega, by rw [beq_eq_false_iff_ne]; intro e; exact hgo ⟨h0, by omega⟩⟩
            · exact .inl (by omega)
          have hlm : (rs.map (·.1)).length = rs.length := List.length_map ..
          clear hend HL hgo
          by_cases he2 : e2 = 0
          · subst he2
            have hq5 : ¬ (rs.length : Int) < (n1 : Int) := hcs.resolve_right fun h => by have := h.2; simp at this
            clear hcs
            have hem := toList_isEmpty s2
            have HBK := Lib.hid (nodesE_back n1 HN2.out (by omega)).2.2.2
            have HAT := Lib.hid (show ∀ x ∈ rs.map (·.1), x.at_.size ≤ 1000000 from fun x hx => by
              have h1 := nodesE_at n1 s1 e1 x
              rw [HN2.out] at h1
              have h2 := h1 hx
              omega)
            by_cases hz : s2.size = 0
            · rw [decide_eq_true hz] at hem
              have hck := rcheck_any (rs.map (·.1)) A c wr (HNV.out.row HOW.out) (fun x hx => (HBK.out x hx).bnd) HAT.out (by omega) (by omega)
              rw [hlm] at hck
              have HCK := Lib.hid hck
              clear hck
              by_cases hc : chkN (rs.map (·.1)) = 0
              · have HD := Lib.hid (show decN s = (rs.map (·.1), 0) by rw [HX.out]; unfold endN; rw [if_neg (by decide), if_neg (by omega), if_neg (by omega)])
                rw [hc] at HCK
                clear hc hz
                go_wp2_with fail
                refine HCK.out.mono ?_
                rintro r w3 ⟨rfl, hb3⟩
                go_wp2
                go_ret2
                unfold DecRPost
                rw [HD.out]
                exact ⟨A, c, by rw [hlm]; rfl, (HNV.out.row HOW.out).below hb3, HBB.out.trans (hb3.mono HBB.out.size), by rw [hlm]; exact hcap⟩
              · have HD := Lib.hid (show decN s = ([], chkN (rs.map (·.1))) by rw [HX.out]; unfold endN; rw [if_neg (by decide), if_neg (by omega), if_pos hc])
                have hne : (((chkN (rs.map (·.1)) : Nat) : Int) != 0) = true := by rw [bne_iff_ne]; omega
                clear hc hz
                go_wp2_with fail
                refine HCK.out.mono ?_
                rintro r w3 ⟨rfl, hb3⟩
                go_wp2
                go_ret2
                unfold DecRPost
                rw [HD.out]
                exact ⟨none, 0, rfl, fun h => absurd h (by simp), HBB.out.trans (hb3.mono HBB.out.size), Nat.le_refl _⟩
            · rw [decide_eq_false hz] at hem
              have HD := Lib.hid (show decN s = ([], 3) by rw [HX.out]; unfold endN; rw [if_neg (by decide), if_pos hz])
              clear hz
              go_wp2
              go_ret2
              unfold DecRPost
              rw [HD.out]
              exact ⟨none, 0, rfl, fun h => absurd h (by simp), HBB.out, Nat.le_refl _⟩
          · have HD := Lib.hid (show decN s = ([], e2) by rw [HX.out]; unfold endN; rw [if_pos he2])
            have hne : ((e2 : Int) != 0) = true := by rw [bne_iff_ne]; omega
            clear he2
            rcases hcs with hq5 | ⟨hq5, hq6⟩
            all_goals
              go_wp2
              go_quiet (fail)
              go_wp2
              go_ret2
              unfold DecRPost
              rw [HD.out]
              exact ⟨none, 0, rfl, fun h => absurd h (by simp), Go.below_drewN HBB.out nq, Nat.le_refl _⟩
end Go.Proofs.YtaoejgnfoecpfaaDoor
