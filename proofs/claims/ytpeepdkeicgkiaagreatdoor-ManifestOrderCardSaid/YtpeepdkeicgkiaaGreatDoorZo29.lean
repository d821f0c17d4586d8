/- CellarerWhen: a disk alone, dates as texts. ManifestOrder: its walk. -/
import Derived.Test.YtpeepdkeicgkiaaGreatDoorZo27
import Derived.Lib.MinMaxS
import Derived.Test.YtpeepdkeicgkiaaGreatDoorZo28
import Derived.Test.YtpeepdkeicgkiaaGreatDoorZo17
namespace Go.Proofs.YtpeepdkeicgkiaaGreatDoor
set_option linter.unusedVariables false
set_option linter.unusedSimpArgs false
set_option linter.unusedSectionVars false
open Go.RowKit Go.Maps Go.Shelf Go.Lib Go.Sort

theorem GI.bare {w0 w1 : World} {b : Nat} {D : Dk} {L : Lay} (h1 : DiskAt w1 b D L) (h2 : Below w0.heap.size w0 w1) (h3 : ∀ k ∈ foot b L, w0.heap.size ≤ k) : GI w0 w1 b D (.slice none 0 0) (.slice none 0 0) [] [] :=
  ⟨L, h1, h2, h3, ⟨rfl, .inl ⟨rfl, rfl⟩⟩, ⟨rfl, .inl ⟨rfl, rfl⟩⟩, (fun k hk => by cases hk), (fun k hk => by cases hk), (fun k hk => by cases hk)⟩
/-- the date of a second -/
def DateIs (t : Nat) (s : ByteArray) : Prop := ∃ y m d, Dat t y m d ∧ s = bs (dateL y (m + 1) (d + 1))
theorem DateIs.uniq {t : Nat} {s u : ByteArray} (h : DateIs t s) (k : DateIs t u) : s = u := by
  obtain ⟨y, m, d, h1, rfl⟩ := h
  obtain ⟨z, n, e, h2, rfl⟩ := k
  obtain ⟨rfl, rfl, rfl⟩ := h1.uniq h2
  rfl
theorem DateIs.up {t u : Nat} {s r : ByteArray} (h : DateIs t s) (k : DateIs u r) (htu : t ≤ u) (hu : u ≤ 253402300799) : Op.bytesLess r.toList s.toList = false := by
  obtain ⟨y, m, d, h1, rfl⟩ := h
  obtain ⟨z, n, e, h2, rfl⟩ := k
  have hy := h1.lim (Nat.le_trans htu hu)
  have hz := h2.lim hu
  have m1 := h1.mon
  have m2 := h2.mon
  have d1 : d ≤ 30 := by have := h1.lt; have := monN_le y m; omega
  have d2 : e ≤ 30 := by have := h2.lt; have := monN_le z n; omega
  have hmono := h1.mono h2 htu
  have hn := dateL_not (y := y) (m := m + 1) (d := d + 1) (z := z) (n := n + 1) (e := e + 1) hy hz (by omega) (by omega) (by omega) (by omega) (by omega)
  rw [bytesLess_eq, Lib.toList_data, Lib.toList_data, bs_list, bs_list]
  exact decide_eq_false hn
theorem less_none (r : ByteArray) : Op.bytesLess r.toList (⟨#[]⟩ : ByteArray).toList = false := by
  rw [bytesLess_eq, Lib.toList_data, Lib.toList_data]
  exact decide_eq_false (List.not_lt_nil _)
theorem date_zero {s : ByteArray} (h : DateIs 0 s) : s = ⟨#[49, 57, 55, 48, 45, 48, 49, 45, 48, 49]⟩ :=
  h.uniq ⟨1970, 0, 0, ⟨by decide, by decide, by decide, by decide⟩, by decide +kernel⟩
theorem dateis_any (t : Nat) (w : World) (ht : t ≤ 253402300799) : Calls Tryz.prog 8 #[.int .i64 t] w fun e w' => ∃ s, e = .returned (.tuple #[.string s, .int .i64 0]) ∧ DateIs t s ∧ Below w.heap.size w w' :=
  (datestr_any t w ht).mono fun _e _w' ⟨y, m, d, h1, h2, h3⟩ => ⟨_, h1, ⟨y, m, d, h2, rfl⟩, h3⟩
end Go.Proofs.YtpeepdkeicgkiaaGreatDoor
namespace Go.Proofs.YtpeepdkeicgkiaaGreatDoor
set_option linter.unusedVariables false
set_option linter.unusedSimpArgs false
set_option linter.unusedSectionVars false
open Go.RowKit Go.Maps Go.Shelf Go.Lib Go.Sort

/-- a row of snapshots that a disk with all of these has -/
def LstAt (l : List Man) (W : World) (v : Value) : Prop := ∃ (D : Dk) (k : Nat) (A : Option Addr) (c : Nat), v = .slice A D.snaps.length c ∧ SnA W A D.tagOf D.snaps ∧ D.snaps.length ≤ 6 ∧ Ord l (fun j => j < min l.length 6) k D
/-- so many of the two rows are made -/
def OrdM (l : List Man) (w W : World) (kk : Nat) : Prop := ∃ (a0 : Option Addr) (n0 c0 : Nat) (a1 : Option Addr) (n1 c1 : Nat), Blk W w.heap.size 43 #[.slice a0 n0 c0, .slice a1 n1 c1] ∧ Below w.heap.size w W ∧ (1 ≤ kk → LstAt l W (.slice a0 n0 c0)) ∧ (2 ≤ kk → LstAt l W (.slice a1 n1 c1))
theorem LstAt.up {l : List Man} {W W' : World} {v : Value} (h : LstAt l W v) (hb : Below W.heap.size W W') : LstAt l W' v := by
  obtain ⟨D, k, A, c, h1, h2, h3, h4⟩ := h
  exact ⟨D, k, A, c, h1, h2.up hb, h3, h4⟩
theorem OrdM.up {l : List Man} {w W W' : World} {kk : Nat} (h : OrdM l w W kk) (hb : Below W.heap.size W W') : OrdM l w W' kk := by
  obtain ⟨a0, n0, c0, a1, n1, c1, h1, h2, h3, h4⟩ := h
  exact ⟨a0, n0, c0, a1, n1, c1, h1.below hb h1.lt, h2.trans (hb.mono h2.size), fun h => (h3 h).up hb, fun h => (h4 h).up hb⟩
theorem OrdM.bel {l : List Man} {w W : World} {kk : Nat} (h : OrdM l w W kk) : Below w.heap.size w W := by
  obtain ⟨a0, n0, c0, a1, n1, c1, h1, h2, h3, h4⟩ := h
  exact h2
theorem SnA.set {W : World} {A : Option Addr} {tg : ByteArray → ByteArray} {l : List Sn} (h : SnA W A tg l) {p : Nat} {t : TypeId} {a0 : Option Addr} {n0 c0 : Nat} {x : Value} (hb : Blk W p t #[.slice a0 n0 c0, x]) (i : Nat) (v : Value) : SnA (W.setCell ⟨p, i, none⟩ v) A tg l := fun hl => by
  obtain ⟨g, e, hlt, hh⟩ := h hl
  have hgp : g ≠ p := by
    rintro rfl
    have h1 := (sn_cells hh hl).1
    have h2 := hb.cell 0
    rw [Nat.zero_mul] at h1
    rw [h1] at h2
    cases h2
  refine ⟨g, e, by simpa using hlt, fun j hj => ⟨?_, ?_⟩⟩
  · rw [World.cell?_setCell_other _ _ _ _ (by simp <;> omega)]; exact (hh j hj).1
  · rw [World.frozen?_setCell]; exact (hh j hj).2
theorem LstAt.set {l : List Man} {W : World} {u : Value} (h : LstAt l W u) {p : Nat} {t : TypeId} {a0 : Option Addr} {n0 c0 : Nat} {x : Value} (hb : Blk W p t #[.slice a0 n0 c0, x]) (i : Nat) (v : Value) : LstAt l (W.setCell ⟨p, i, none⟩ v) u := by
  obtain ⟨D, k, A, c, h1, h2, h3, h4⟩ := h
  exact ⟨D, k, A, c, h1, h2.set hb i v, h3, h4⟩
theorem OrdM.set0 {l : List Man} {w W : World} (h : OrdM l w W 0) {A : Option Addr} {n c : Nat} (hn : LstAt l W (.slice A n c)) : OrdM l w (W.setCell ⟨w.heap.size, 0, none⟩ (.slice A n c)) 1 := by
  obtain ⟨a0, n0, c0, a1, n1, c1, h1, h2, h3, h4⟩ := h
  exact ⟨A, n, c, a1, n1, c1, h1.set_ 0 _, h2.setCell (Nat.le_refl _) _, fun _ => hn.set h1 0 _, fun h => absurd h (by decide)⟩
theorem OrdM.set1 {l : List Man} {w W : World} (h : OrdM l w W 1) {A : Option Addr} {n c : Nat} (hn : LstAt l W (.slice A n c)) : OrdM l w (W.setCell ⟨w.heap.size, 1, none⟩ (.slice A n c)) 2 := by
  obtain ⟨a0, n0, c0, a1, n1, c1, h1, h2, h3, h4⟩ := h
  exact ⟨a0, n0, c0, A, n, c, h1.set_ 1 _, h2.setCell (Nat.le_refl _) _, fun _ => (h3 (by decide)).set h1 1 _, fun _ => hn.set h1 1 _⟩
theorem OrdM.cells {l : List Man} {w W : World} {kk : Nat} (h : OrdM l w W kk) {i : Nat} (hi : i < 2) : (∃ v, W.cell? ⟨w.heap.size, i, none⟩ = some v) ∧ W.frozen? ⟨w.heap.size, i, none⟩ = false := by
  obtain ⟨a0, n0, c0, a1, n1, c1, h1, h2, h3, h4⟩ := h
  refine ⟨?_, h1.frozen i⟩
  rw [h1.cell]
  obtain rfl | rfl : i = 0 ∨ i = 1 := by omega
  · exact ⟨_, rfl⟩
  · exact ⟨_, rfl⟩
theorem encM_is (m : Man) : (encR (fewM m)).1 = encM m := by
  unfold encR encM
  split <;> rfl
/-- of one manifest against those ahead of it -/
def NoCol4 (l : List Man) (i k : Nat) : Prop := ∀ (hi : i < l.length) k' (hk : k' < l.length), k' < k → encM l[i] ≠ encM l[k'] → nameS (encM l[i]) ≠ nameS (encM l[k'])
theorem NoCol.succ {l : List Man} {i : Nat} (h : NoCol l i) (h4 : NoCol4 l i i) : NoCol l (i + 1) := fun i' k' hi hk h1 h2 => by
  by_cases e : i' = i
  · subst e; exact h4 hi k' hk h2
  · exact h i' k' hi hk (by omega) h2
theorem NoCol4.succ {l : List Man} {i k : Nat} (h : NoCol4 l i k) (hi : i < l.length) (hk : k < l.length) (hn : encM l[i] ≠ encM l[k] → nameS (encM l[i]) ≠ nameS (encM l[k])) : NoCol4 l i (k + 1) := fun hi' k' hk' h1 => by
  by_cases e : k' = k
  · subst e; exact hn
  · exact h hi' k' hk' (by omega)
theorem small_restO {D : Dk} {R : Int} {N F Z n : Nat} (h : Rest D R N F Z) (hn : F ≤ n) : D.small n := ⟨Nat.le_trans h.calm.fl hn, by have := h.calm.st; omega⟩
theorem Below.drewN_refl {w : World} (n : Nat) : Below w.heap.size w (w.drewN n) := ⟨rfl, rfl, rfl, Nat.le_refl _, fun _ _ => rfl⟩
theorem min_cases (n : Nat) : min n 6 = n ∧ n ≤ 6 ∨ min n 6 = 6 ∧ 6 < n := by omega
set_option maxRecDepth 100000 in
set_option maxHeartbeats 12800000 in
theorem order_all (A : Option Addr) (ca : Nat) (l : List Man) (w : World) (he : Env w) (hm : MansI w A l) (hl : l.length ≤ 140737488355328) :
    Calls Tryz.prog 4 #[.slice A l.length ca] w fun e w' => e = .returned (.bool true) ∧ Below w.heap.size w w' := by
  have HE := Lib.hid fun W (hb : Below w.heap.size w W) => he.below hb
  have HNW := Lib.hid fun W => new_any 1048576 W (by decide)
  have HM := Lib.hid fun W (hb : Below w.heap.size w W) => hm.up hb
  have HB0 := Lib.hid (Blk.new w 43 #[.slice none 0 0, .slice none 0 0])
  obtain ⟨n6, hn6⟩ : ∃ n6, n6 = min l.length 6 := ⟨_, rfl⟩
  have HN6 := Lib.hid hn6
  have hn6b : n6 ≤ 6 ∧ n6 ≤ l.length := by omega
  clear he hm hn6
  go_enter Tryz.func4, Tryz.ntmps4
  go_wp2
  go_loopw [4] (fun kv W => ∃ kk : Nat, kv = .int .i64 (kk : Nat) ∧ kk ≤ 2 ∧ Hid (OrdM l w W kk)) (fun kv _ => 2 - (intOf kv).toNat)
  case atStart => exact ⟨0, rfl, by omega, Lib.hid ⟨_, _, _, _, _, _, HB0.out, (Below.refl _ w).alloc (Nat.le_refl _) _, fun h => absurd h (by decide), fun h => absurd h (by decide)⟩⟩
  case round =>
    clear HB0
    obtain ⟨kk, rfl, hkk, HO⟩ := hrel
    by_cases hk2 : kk < 2
    · have HN := Lib.hid (HNW.out wr)
      have hk2i : (kk : Int) < 2 := by omega
      obtain ⟨wo, rfl⟩ : ∃ wo : World, wo = wr := ⟨_, rfl⟩
      have HBO := Lib.hid HO.out.bel
      have hzo := HBO.out.size
      go_wp2_with fail
      refine HN.out.mono ?_
      rintro e w1 ⟨b, L, rfl, hd1, hb1, hf1⟩
      have HG0 := Lib.hid (GI.bare hd1 hb1 hf1)
      clear hd1 hb1 hf1 HN
      go_wp2
      go_loopw [7] (fun iv W => ∃ (k : Nat) (D : Dk), iv = .int .i64 (k : Nat) ∧ k ≤ n6 ∧ Hid (Ord l (PO kk n6 k) k D ∧ GI wo W b D (.slice none 0 0) (.slice none 0 0) [] [])) (fun iv _ => 6 - (intOf iv).toNat)
      case atStart => exact ⟨0, _, rfl, Nat.zero_le _, Lib.hid ⟨(Ord.zero l).congr fun j _ => PO_zero j, HG0.out⟩⟩
      case round =>
        clear HG0
        obtain ⟨k, D, rfl, hkn, HG⟩ := hrel
        by_cases hlt : k < n6
        · obtain ⟨at_, hat⟩ : ∃ at_, at_ = ixO kk n6 k := ⟨_, rfl⟩
          have hatl : at_ < l.length ∧ at_ < n6 := by rw [hat]; unfold ixO; split <;> omega
          have h1 : k < l.length := by omega
          have h2 : k < 6 := by omega
          have HAT := Lib.hid hat
          clear hat
          go_upto_if 45 with fail
          go_cut [8] (fun v8 wc => v8 = .int .i64 (at_ : Nat) ∧ wr = wc)
          case first =>
            have hcs := min_cases l.length
            rw [← HN6.out] at hcs
            rcases (by omega : kk = 0 ∨ kk = 1) with rfl | rfl
            · have ha : at_ = k := by rw [HAT.out]; rfl
              have HA := Lib.hid ha
              clear ha hcs
              go_wp2
              go_meet
              exact ⟨by rw [HA.out], rfl⟩
            · have HA := Lib.hid (show (at_ : Int) = min (l.length : Int) 6 - 1 - (k : Int) by rw [HAT.out]; unfold ixO; rw [if_pos rfl]; omega)
              clear hcs
              go_wp2
              go_meet
              exact ⟨by rw [HA.out], rfl⟩
          case rest =>
            obtain ⟨rfl, rfl⟩ := hcut
            have HBL := Lib.hid (HBO.out.trans (HG.out.2.bel.mono hzo))
            obtain ⟨g, o, rfl, hg, hcc⟩ := HM.out _ HBL.out (by omega)
            obtain ⟨B, c, hcells, hin⟩ := hcc at_ _ (List.getElem?_eq_getElem hatl.1)
            have q0 : wr.cell? ⟨g, o + at_ * 5, none⟩ = some (.int .i64 l[at_].time) := hcells 0 _ rfl
            have q1 : wr.cell? ⟨g, o + at_ * 5 + 1, none⟩ = some (.string l[at_].tag) := hcells 1 _ rfl
            have q2 : wr.cell? ⟨g, o + at_ * 5 + 2, none⟩ = some (.string l[at_].parent) := hcells 2 _ rfl
            have q3 : wr.cell? ⟨g, o + at_ * 5 + 3, none⟩ = some (.int .i64 l[at_].size) := hcells 3 _ rfl
            have q4 : wr.cell? ⟨g, o + at_ * 5 + 4, none⟩ = some (.slice B l[at_].chunks.length c) := hcells 4 _ rfl
            have HF := Lib.hid (mfew_any l[at_] B c wr hin.1 hin.2.1 hin.2.2.1 hin.2.2.2.1)
            have HMB := Lib.hid (hin.2.2.2.2.few)
            have HSM := Lib.hid (small_restO (n := 300000) HG.out.1.rest (by omega))
            have HMP := Lib.hid (mpublish_rest HG.out.1.rest (by omega) l[at_])
            have HST := Lib.hid (show Ord l (PO kk n6 (k + 1)) (k + 1) (D.pubM (fewM l[at_])) from (HG.out.1.step hatl.1).congr fun j _ => by rw [HAT.out]; exact PO_succ j)
            have HGI := Lib.hid HG.out.2
            have hatn : (at_ : Int) < (l.length : Int) := by have := hatl.1; omega
            clear hcc hcells hin HG
            unfold manV at HF
            unfold FewPost manV at HF
            generalize fewM l[at_] = fm at *
            generalize l[at_] = m at *
            go_wp2_with fail
            refine HF.out.mono ?_
            rintro e w2 ⟨A2, c2, rfl, hst2, hb2, hc2, _⟩
            have HGI2 := Lib.hid (HGI.out.up hb2)
            have HPB := Lib.hid (HGI2.out.disk fun L h1 => mpublish_any b D L fm A2 c2 w2 h1 (HE.out _ (HBO.out.trans (HGI2.out.bel.mono hzo))) hst2 HMB.out hc2 HSM.out)
            clear hst2 hb2 hc2 HGI HMB HSM HF q0 q1 q2 q3 q4
            rw [HMP.out] at HPB
            unfold manV at HPB
            have HPC := Lib.hid (HPB.out.mono fun (e : Ending) w' ⟨h1, h2⟩ => (show ∃ s c, e = Ending.returned (.tuple #[.string s, .int .i64 c]) ∧ GI wo w' b (D.pubM fm) (.slice none 0 0) (.slice none 0 0) [] [] from ⟨_, _, h1, h2⟩))
            clear HPB HMP
            go_wp2_with fail
            refine HPC.out.mono ?_
            rintro e w3 ⟨rs, rc, rfl, hg3⟩
            have HG3 := Lib.hid (And.intro HST.out hg3)
            clear hg3 HPC HGI2 HST
            go_wp2
            go_roundw
            case rel => exact ⟨k + 1, D.pubM fm, by go_num, by omega, HG3⟩
            case measure => simp [intOf]; omega
        · obtain rfl : k = n6 := by omega
          have HOR := Lib.hid (show Ord l (fun j => j < min l.length 6) k D from HG.out.1.congr fun j _ => by rw [PO_full, HN6.out])
          have hdead := HOR.out.rest.calm.dead
          have hap := HOR.out.rest.ok.fap
          have HLI := Lib.hid (show Calls Tryz.prog 11 #[.pointer (some ⟨b, 0, none⟩)] wr fun e w' => MListPost D wr e w' from by
            obtain ⟨L, q1, q2, _⟩ := HG.out.2
            exact mlist_any b D L wr q1 (HE.out _ (HBO.out.trans (q2.mono hzo))) hdead (by have := HOR.out.rest.calm.num; omega))
          have hbd := HOR.out.named.bads hdead hap
          have HSL := Lib.hid (show D.snaps.length ≤ 6 from by
            rw [HOR.out.named.snaps_len hdead hap]
            exact Nat.le_trans HOR.out.rest.calm.num (by omega))
          have HBG := Lib.hid HG.out.2.bel
          unfold MListPost at HLI
          rw [hbd] at HLI
          have HOX := Lib.hid (HO.out.up HBG.out)
          clear hdead hap hbd HG HO
          rcases (by have := HN6.out; omega : ¬ k < l.length ∨ (k < l.length ∧ ¬ k < 6)) with h1 | ⟨h1, h2⟩
          all_goals
            clear hlt
            go_wp2_with fail
            refine HLI.out.mono ?_
            rintro e w4 ⟨As, cs, Bb, db, rfl, hsn, _, hcs, _, _, _, hb4⟩
            rw [List.length_nil]
            have HO4 := Lib.hid (HOX.out.up hb4)
            have HLA := Lib.hid (show LstAt l w4 (.slice As D.snaps.length cs) from ⟨D, k, As, cs, rfl, hsn, HSL.out, HOR.out⟩)
            obtain ⟨⟨ov, ho1⟩, ho2⟩ := HO4.out.cells hk2
            clear hb4 hsn HLI HOX HSL HOR HBG
            generalize D.snaps.length = ns at *
            rcases (by omega : kk = 0 ∨ kk = 1) with rfl | rfl
            · have HO5 := Lib.hid (HO4.out.set0 HLA.out)
              go_wp2
              go_roundw
              case rel => exact ⟨1, rfl, by omega, HO5⟩
              case measure => simp [intOf]
            · have HO5 := Lib.hid (HO4.out.set1 HLA.out)
              go_wp2
              go_roundw
              case rel => exact ⟨2, rfl, by omega, HO5⟩
              case measure => simp [intOf]
    · obtain rfl : kk = 2 := by omega
      rw [show ((2 : Nat) : Int) = 2 from rfl]
      obtain ⟨a0, n0, c0, a1, n1, c1, hbk, hbl, hl0, hl1⟩ := HO.out
      obtain ⟨D0, k0, A0, c0', e0, s0, z0, o0⟩ := hl0 (by decide)
      obtain ⟨D1, k1, A1, c1', e1, s1, z1, o1⟩ := hl1 (by decide)
      simp only [Value.slice.injEq] at e0 e1
      obtain ⟨rfl, rfl, rfl⟩ := e0
      obtain ⟨rfl, rfl, rfl⟩ := e1
      have hlen := o0.len o1
      have HSAME := Lib.hid fun (hc : NoCol l n6) => o0.same o1 hc (fun j hj => by rw [HN6.out]; exact hj)
      have HLD := Lib.hid (o0.named.listed o0.rest.calm.dead o0.rest.ok.fap)
      have HUP := Lib.hid fun (W W' : World) (h : Blk W w.heap.size 43 #[.slice a0 D0.snaps.length c0, .slice a1 D0.snaps.length c1] ∧ Below w.heap.size w W ∧ SnA W a0 D0.tagOf D0.snaps ∧ SnA W a1 D1.tagOf D1.snaps) (hb : Below W.heap.size W W') =>
        (show Blk W' w.heap.size 43 #[.slice a0 D0.snaps.length c0, .slice a1 D0.snaps.length c1] ∧ Below w.heap.size w W' ∧ SnA W' a0 D0.tagOf D0.snaps ∧ SnA W' a1 D1.tagOf D1.snaps from ⟨h.1.below hb h.1.lt, h.2.1.trans (hb.mono h.2.1.size), h.2.2.1.up hb, h.2.2.2.up hb⟩)
      rw [← hlen] at hbk
      have HQ := Lib.hid (And.intro hbk (And.intro hbl (And.intro s0 s1)))
      have d0 : wr.cell? ⟨w.heap.size, 0, none⟩ = some (.slice a0 D0.snaps.length c0) := hbk.cell 0
      have d1 : wr.cell? ⟨w.heap.size, 1, none⟩ = some (.slice a1 D0.snaps.length c1) := hbk.cell 1
      clear hlen hbk hbl hl0 hl1 s0 s1 o0 o1 HO z1
      obtain ⟨sn0, hsn0⟩ : ∃ x, D0.snaps = x := ⟨_, rfl⟩
      obtain ⟨sn1, hsn1⟩ : ∃ x, D1.snaps = x := ⟨_, rfl⟩
      obtain ⟨tg0, htg0⟩ : ∃ x, D0.tagOf = x := ⟨_, rfl⟩
      obtain ⟨tg1, htg1⟩ : ∃ x, D1.tagOf = x := ⟨_, rfl⟩
      rw [hsn0] at d0 d1 HQ HUP HSAME HLD z0
      rw [hsn1] at HQ HUP HSAME
      rw [htg0] at HQ HUP HSAME
      rw [htg1] at HQ HUP HSAME
      clear hsn0 hsn1 htg0 htg1
      go_wp2
      go_loopw [12] (fun iv W => ∃ i : Nat, iv = .int .i64 (i : Nat) ∧ i ≤ n6 ∧ Hid (NoCol l i) ∧ Hid (Blk W w.heap.size 43 #[.slice a0 sn0.length c0, .slice a1 sn0.length c1] ∧ Below w.heap.size w W ∧ SnA W a0 tg0 sn0 ∧ SnA W a1 tg1 sn1)) (fun iv _ => 6 - (intOf iv).toNat)
      case atStart => exact ⟨0, rfl, Nat.zero_le _, Lib.hid (fun i k hi hk h => absurd h (by omega)), HQ⟩
      case round =>
        clear HQ d0 d1
        obtain ⟨i, rfl, hi, HNC, HQ⟩ := hrel
        by_cases hin : i < n6
        · have h1 : i < l.length := by omega
          have h2 : i < 6 := by omega
          have h6d : decide ((i : Int) < 6) = true := decide_eq_true (by omega)
          go_wp2
          go_loopw [13] (fun jv W => ∃ j : Nat, jv = .int .i64 (j : Nat) ∧ j ≤ i ∧ Hid (NoCol4 l i j) ∧ Hid (Blk W w.heap.size 43 #[.slice a0 sn0.length c0, .slice a1 sn0.length c1] ∧ Below w.heap.size w W ∧ SnA W a0 tg0 sn0 ∧ SnA W a1 tg1 sn1)) (fun jv _ => 6 - (intOf jv).toNat)
          case atStart => exact ⟨0, rfl, Nat.zero_le _, Lib.hid (fun hi k' hk h => absurd h (by omega)), HQ⟩
          case round =>
            clear HQ
            obtain ⟨j, rfl, hj, HN4, HQ⟩ := hrel
            by_cases hji : j < i
            · have hjl : j < l.length := by omega
              have hiI : (i : Int) < (l.length : Int) := by omega
              have hjI : (j : Int) < (l.length : Int) := by omega
              obtain ⟨g, o, rfl, hg, hcc⟩ := HM.out _ HQ.out.2.1 (by omega)
              obtain ⟨B, c, hcells, hin2⟩ := hcc i _ (List.getElem?_eq_getElem h1)
              obtain ⟨B', c', hcells', hin3⟩ := hcc j _ (List.getElem?_eq_getElem hjl)
              have q0 : wr.cell? ⟨g, o + i * 5, none⟩ = some (.int .i64 l[i].time) := hcells 0 _ rfl
              have q1 : wr.cell? ⟨g, o + i * 5 + 1, none⟩ = some (.string l[i].tag) := hcells 1 _ rfl
              have q2 : wr.cell? ⟨g, o + i * 5 + 2, none⟩ = some (.string l[i].parent) := hcells 2 _ rfl
              have q3 : wr.cell? ⟨g, o + i * 5 + 3, none⟩ = some (.int .i64 l[i].size) := hcells 3 _ rfl
              have q4 : wr.cell? ⟨g, o + i * 5 + 4, none⟩ = some (.slice B l[i].chunks.length c) := hcells 4 _ rfl
              have HR := Lib.hid fun W (hb : Below wr.heap.size wr W) => (show W.cell? ⟨g, o + j * 5, none⟩ = some (.int .i64 l[j].time) ∧ W.cell? ⟨g, o + j * 5 + 1, none⟩ = some (.string l[j].tag) ∧ W.cell? ⟨g, o + j * 5 + 2, none⟩ = some (.string l[j].parent) ∧ W.cell? ⟨g, o + j * 5 + 3, none⟩ = some (.int .i64 l[j].size) ∧ W.cell? ⟨g, o + j * 5 + 4, none⟩ = some (.slice B' l[j].chunks.length c') from
                ⟨(hb.cell (p := ⟨g, o + j * 5, none⟩) hg).trans (hcells' 0 _ rfl), (hb.cell (p := ⟨g, o + j * 5 + 1, none⟩) hg).trans (hcells' 1 _ rfl), (hb.cell (p := ⟨g, o + j * 5 + 2, none⟩) hg).trans (hcells' 2 _ rfl), (hb.cell (p := ⟨g, o + j * 5 + 3, none⟩) hg).trans (hcells' 3 _ rfl), (hb.cell (p := ⟨g, o + j * 5 + 4, none⟩) hg).trans (hcells' 4 _ rfl)⟩)
              have HF := Lib.hid (mfew_any l[i] B c wr hin2.1 hin2.2.1 hin2.2.2.1 hin2.2.2.2.1)
              have HF' := Lib.hid fun W (hb : Below wr.heap.size wr W) => mfew_any l[j] B' c' W (hin3.up hb).1 hin3.2.1 hin3.2.2.1 hin3.2.2.2.1
              have HMB := Lib.hid (hin2.2.2.2.2.few)
              have HMB' := Lib.hid (hin3.2.2.2.2.few)
              have HEI := Lib.hid (encM_is l[i])
              have HEJ := Lib.hid (encM_is l[j])
              have HSI := Lib.hid (encM_size l[i])
              have HSJ := Lib.hid (encM_size l[j])
              have HN5 := Lib.hid fun hn => HN4.out.succ h1 hjl hn
              clear hcc hcells hcells' hin2 hin3
              unfold manV at HF HF'
              unfold FewPost manV at HF HF'
              generalize encM l[i] = ei at *
              generalize encM l[j] = ej at *
              generalize fewM l[i] = fi at *
              generalize fewM l[j] = fj at *
              generalize l[i] = mi at *
              generalize l[j] = mj at *
              go_wp2_with fail
              refine HF.out.mono ?_
              rintro e w2 ⟨A2, c2, rfl, hst2, hb2, hc2, _⟩
              have HB2 := Lib.hid hb2
              have HEN := Lib.hid (mencode_any fi A2 c2 w2 (HE.out _ (HQ.out.2.1.trans (hb2.mono HQ.out.2.1.size))) hst2 HMB.out hc2)
              rw [HEI.out] at HEN
              unfold manV at HEN
              clear hst2 hb2 hc2 HF HMB q0 q1 q2 q3 q4
              generalize (encR fi).2 = ri at *
              go_wp2_with fail
              refine HEN.out.mono ?_
              rintro e w3 ⟨rfl, hb3⟩
              have HB3 := Lib.hid (HB2.out.trans (hb3.mono HB2.out.size))
              clear hb3 HEN HB2
              obtain ⟨q0, q1, q2, q3, q4⟩ := HR.out _ HB3.out
              go_wp2_with fail
              refine (HF'.out _ HB3.out).mono ?_
              rintro e w4 ⟨A4, c4, rfl, hst4, hb4, hc4, _⟩
              have HB4 := Lib.hid (HB3.out.trans (hb4.mono HB3.out.size))
              have HEN := Lib.hid (mencode_any fj A4 c4 w4 (HE.out _ (HQ.out.2.1.trans (HB4.out.mono HQ.out.2.1.size))) hst4 HMB'.out hc4)
              rw [HEJ.out] at HEN
              unfold manV at HEN
              clear hst4 hb4 hc4 HF' HMB' q0 q1 q2 q3 q4 HR
              generalize (encR fj).2 = rj at *
              go_wp2_with fail
              refine HEN.out.mono ?_
              rintro e w5 ⟨rfl, hb5⟩
              have HB5 := Lib.hid (HB4.out.trans (hb5.mono HB4.out.size))
              have HQ5 := Lib.hid (HUP.out _ _ HQ.out HB5.out)
              clear hb5 HEN HB3 HB4 HB5 HQ
              by_cases hs : ei = ej
              · subst hs
                have HN6' := Lib.hid (HN5.out fun h => absurd rfl h)
                have t1 : (ei.toList == ei.toList) = true := by simp
                clear HN5 HN4
                go_wp2
                go_roundw
                case rel => exact ⟨j + 1, by go_num, by omega, HN6', HQ5⟩
                case measure => simp [intOf]; omega
              · have t1 : (ei.toList == ej.toList) = false := by rw [str_eqb, decide_eq_false hs]
                have HD := Lib.hid fun W => ddigest_any ei W (Nat.le_trans HSI.out (by decide))
                have HD' := Lib.hid fun W => ddigest_any ej W (Nat.le_trans HSJ.out (by decide))
                have HS := Lib.hid hs
                clear hs
                go_wp2_with fail
                refine (HD.out _).mono ?_
                rintro e w6 ⟨rfl, hb6⟩
                have HB6 := Lib.hid hb6
                clear hb6
                go_wp2_with fail
                refine (HD'.out _).mono ?_
                rintro e w7 ⟨rfl, hb7⟩
                have HQ7 := Lib.hid (HUP.out _ _ HQ5.out (HB6.out.trans (hb7.mono HB6.out.size)))
                clear hb7 HB6 HQ5 HD HD'
                by_cases hd : nameS ei = nameS ej
                · have t2 : ((nameS ei).toList == (nameS ej).toList) = true := by rw [hd]; simp
                  clear hd
                  generalize nameS ei = ni at *
                  generalize nameS ej = nj at *
                  go_wp2
                  go_ret
                  exact ⟨rfl, HQ7.out.2.1⟩
                · have t2 : ((nameS ei).toList == (nameS ej).toList) = false := by rw [str_eqb, decide_eq_false hd]
                  have HN6' := Lib.hid (HN5.out fun _ => hd)
                  clear hd HN5 HN4
                  generalize nameS ei = ni at *
                  generalize nameS ej = nj at *
                  go_wp2
                  go_roundw
                  case rel => exact ⟨j + 1, by go_num, by omega, HN6', HQ7⟩
                  case measure => simp [intOf]; omega
            · obtain rfl : j = i := by omega
              have HNC2 := Lib.hid (HNC.out.succ HN4.out)
              clear HNC HN4
              go_wp2
              go_roundw
              case rel => exact ⟨j + 1, by go_num, by omega, HNC2, HQ⟩
              case measure => simp [intOf]; omega
        · obtain rfl : i = n6 := by omega
          obtain ⟨es, et⟩ := HSAME.out HNC.out
          subst es et
          clear HNC HSAME
          rcases (by have := HN6.out; omega : ¬ i < l.length ∨ (i < l.length ∧ ¬ i < 6)) with h1 | ⟨h1, h2⟩
          all_goals
            clear hin
            have d0 : wr.cell? ⟨w.heap.size, 0, none⟩ = some (.slice a0 sn0.length c0) := HQ.out.1.cell 0
            go_wp2
            go_loopw [128] (fun iv W => ∃ i : Nat, iv = .int .i64 (i : Nat) ∧ i ≤ sn0.length ∧ Hid (Blk W w.heap.size 43 #[.slice a0 sn0.length c0, .slice a1 sn0.length c1] ∧ Below w.heap.size w W ∧ SnA W a0 tg0 sn0 ∧ SnA W a1 tg0 sn0)) (fun iv _ => 6 - (intOf iv).toNat)
            case atStart => exact ⟨0, rfl, Nat.zero_le _, HQ⟩
            case round =>
              clear HQ d0
              obtain ⟨q, rfl, hq, HQ⟩ := hrel
              by_cases hql : q < sn0.length
              · obtain ⟨g0, rfl, _, hh0⟩ := HQ.out.2.2.1 (by omega)
                obtain ⟨g1, rfl, _, hh1⟩ := HQ.out.2.2.2 (by omega)
                obtain ⟨x0, x1, x2⟩ := sn_cells hh0 hql
                obtain ⟨y0, y1, y2⟩ := sn_cells hh1 hql
                have d0 : wr.cell? ⟨w.heap.size, 0, none⟩ = some (.slice (some ⟨g0, 0, none⟩) sn0.length c0) := HQ.out.1.cell 0
                have d1 : wr.cell? ⟨w.heap.size, 1, none⟩ = some (.slice (some ⟨g1, 0, none⟩) sn0.length c1) := HQ.out.1.cell 1
                have HT := Lib.hid fun (p : Nat) (hp : p < sn0.length) (hpq : p < q) => HLD.out.up p q hp hql hpq
                have HCP := Lib.hid fun (p : Nat) (hp : p < sn0.length) => (sn_cells hh0 hp).2.1
                have HQN := Lib.hid fun nq => HUP.out wr (wr.drewN nq) HQ.out (Below.drewN_refl nq)
                clear hh0 hh1
                generalize sn0[q].t = xt at *
                generalize tg0 sn0[q].id = xg at *
                generalize sn0[q].id = xi at *
                have hss : (xi.toList == xi.toList) = true := by simp
                have htt : (xg.toList == xg.toList) = true := by simp
                have hxx : (xt : Int) = (xt : Int) := rfl
                clear hxx
                by_cases hq0 : q = 0
                · subst hq0
                  clear HT HCP
                  go_upto_region 34 with fail
                  go_quiet (fail)
                  have HQ9 := Lib.hid (HQN.out nq)
                  go_wp2
                  go_roundw
                  case rel => exact ⟨1, rfl, by omega, HQ9⟩
                  case measure => simp [intOf]
                · obtain ⟨p, rfl⟩ : ∃ p, q = p + 1 := ⟨q - 1, by omega⟩
                  have hpl : p < sn0.length := by omega
                  have px := HCP.out p hpl
                  have hpt := HT.out p hpl (by omega)
                  have hgt : decide ((sn0[p].t : Int) > (xt : Int)) = false := decide_eq_false (by omega)
                  have hgn : decide (xt < sn0[p].t) = false := decide_eq_false (by omega)
                  clear HT HCP
                  generalize sn0[p].t = pt at *
                  go_upto_region 34 with fail
                  go_quiet (fail)
                  have HQ9 := Lib.hid (HQN.out nq)
                  go_wp2
                  go_roundw
                  case rel => exact ⟨p + 1 + 1, by go_num, by omega, HQ9⟩
                  case measure => simp [intOf]; omega
              · obtain rfl : q = sn0.length := by omega
                have HBF := Lib.hid HQ.out.2.1
                have HAW := Lib.hid (awake19_any wr (HE.out _ HBF.out))
                clear HQ
                go_wp2_with fail
                refine HAW.out.mono ?_
                rintro e w5 ⟨rfl, hb5⟩
                have HB5 := Lib.hid (HBF.out.trans (hb5.mono HBF.out.size))
                clear hb5 HAW
                go_wp2
                go_ret
                exact ⟨rfl, HB5.out⟩
theorem order_card (l : List Man) (v : Value) (w : World) (he : Env w) (hp : MansP w v l) :
    Calls Tryz.prog 4 #[v] w fun e w' => e = .returned (.bool true) ∧ Below w.heap.size w w' := by
  obtain ⟨A, c, rfl, hi, hl⟩ := hp
  exact order_all A c l w he hi hl
end Go.Proofs.YtpeepdkeicgkiaaGreatDoor
