/- The index's laws: IndexElder. -/
import Derived.Test.YtopmanmjggcfaaaJm
namespace Go.Proofs.Ytopmanmjggcfaaa
open Go.RowKit

def hd0 : Hd := ⟨⟨#[]⟩, 0, 0, 0, 0, 0⟩
/-- the other index, behind so many heads from the last on -/
def yIx (F : List Hd) : Nat → Ix
  | 0 => ⟨[], []⟩
  | n + 1 => if twiceH F (F.length - (n + 1)) (F.getD (F.length - (n + 1)) hd0).name = true then yIx F n else (yIx F n).add tOne [F.getD (F.length - (n + 1)) hd0]
theorem yIx_places (F : List Hd) : ∀ n, (yIx F n).places = yPl tOne F n
  | 0 => rfl
  | n + 1 => by
    have ih := yIx_places F n
    unfold yIx yPl
    by_cases h : twiceH F (F.length - (n + 1)) (F.getD (F.length - (n + 1)) hd0).name = true
    · rw [if_pos h]
      have h' : twiceH F (F.length - (n + 1)) (F.getD (F.length - (n + 1)) ⟨⟨#[]⟩, 0, 0, 0, 0, 0⟩).name = true := h
      rw [if_pos h', ih]
    · rw [if_neg h]
      have h' : ¬ twiceH F (F.length - (n + 1)) (F.getD (F.length - (n + 1)) ⟨⟨#[]⟩, 0, 0, 0, 0, 0⟩).name = true := h
      rw [if_neg h']
      show [F.getD (F.length - (n + 1)) hd0].foldl (addH tOne) (yIx F n).places = _
      rw [ih]
      rfl
theorem yIx_packs (F : List Hd) : ∀ n, (yIx F n).packs = [] ∨ (yIx F n).packs = [tOne]
  | 0 => .inl rfl
  | n + 1 => by
    unfold yIx
    split
    · exact yIx_packs F n
    · refine .inr ?_
      show addP (yIx F n).packs tOne = [tOne]
      rcases yIx_packs F n with e | e <;> rw [e] <;> rfl
theorem yIx_all {F : List Hd} (h : 0 < F.length) : yIx F F.length = (⟨[], []⟩ : Ix).add tOne F := by
  have h1 : (yIx F F.length).places = ((⟨[], []⟩ : Ix).add tOne F).places := by rw [yIx_places, yPl_all]; rfl
  have h2 : (yIx F F.length).packs = [tOne] := by
    obtain ⟨n, hn⟩ : ∃ n, F.length = n + 1 := ⟨F.length - 1, by omega⟩
    rw [hn]
    unfold yIx
    rw [hn, Nat.sub_self, if_neg (by simp [twiceH])]
    show addP (yIx F n).packs tOne = [tOne]
    rcases yIx_packs F n with e | e <;> rw [e] <;> rfl
  have h3 : ((⟨[], []⟩ : Ix).add tOne F).packs = [tOne] := rfl
  generalize yIx F F.length = X at *
  generalize (⟨[], []⟩ : Ix).add tOne F = Y at *
  obtain ⟨a, b⟩ := X
  obtain ⟨c, d⟩ := Y
  simp only at h1 h2 h3
  rw [h1, h2, h3]
theorem yIx_few {F : List Hd} (hF : ∀ g ∈ F, g.name.size ≤ 140737488355328 ∧ HdB g) : ∀ n, n ≤ F.length → (yIx F n).Few 1 n
  | 0, _ => ⟨Ix.ok_none, Nat.zero_le _, Nat.le_refl _, (fun _ h => by cases h), (fun _ h => by cases h)⟩
  | n + 1, hn => by
    have ih := yIx_few hF n (by omega)
    have hi : F.length - (n + 1) < F.length := by omega
    have hg : F.getD (F.length - (n + 1)) hd0 = F[F.length - (n + 1)] := by rw [List.getD_eq_getElem?_getD, List.getElem?_eq_getElem hi]; rfl
    unfold yIx
    split
    · exact ⟨ih.ok, ih.np, Nat.le_succ_of_le ih.nq, ih.sp, ih.sq⟩
    · have := ih.add tOne [F.getD (F.length - (n + 1)) hd0] (by decide) (fun g hg' => by
        rw [List.mem_singleton.1 hg', hg]
        exact hF _ (List.getElem_mem hi))
      refine ⟨this.ok, ?_, this.nq, this.sp, this.sq⟩
      show (addP (yIx F n).packs tOne).length ≤ 1
      rcases yIx_packs F n with e | e <;> rw [e] <;> decide
theorem twiceH_snoc {F : List Hd} {j : Nat} (hj : j < F.length) (nm : ByteArray) : twiceH F (j + 1) nm = (twiceH F j nm || decide (F[j].name = nm)) := by
  unfold twiceH
  rw [List.take_succ_eq_append_getElem hj, List.any_append]
  simp
theorem elder_get {F G : List Hd} {j : Nat} (hj : j < F.length) : ∃ h, kvGet (((⟨[], []⟩ : Ix).add tOne F).add tTwo G).places F[j].name = some ⟨tOne, h⟩ := by
  have h1 : kvGet (F.foldl (addH tOne) []) F[j].name = (F.find? fun h => decide (h.name = F[j].name)).map fun h => ⟨tOne, h⟩ := by
    rw [adds_get F (List.Pairwise.nil)]
    rfl
  cases hf : F.find? fun h => decide (h.name = F[j].name) with
  | none =>
    rw [List.find?_eq_none] at hf
    have := hf F[j] (List.getElem_mem hj)
    simp at this
  | some h =>
    refine ⟨h, ?_⟩
    show kvGet (G.foldl (addH tTwo) (F.foldl (addH tOne) [])) F[j].name = _
    rw [adds_get G (adds_up F List.Pairwise.nil), h1, hf]
    rfl
theorem RowA.one {w : World} {g o : Nat} {F : List Hd} {m : Nat} (h : RowA w w.heap.size 6 (some ⟨g, o, none⟩) (F.map hdC)) (hm : m < F.length) : RowA w w.heap.size 6 (some ⟨g, o + m * 6, none⟩) ([F[m]].map hdC) := fun _ => by
  obtain ⟨g', o', e, hb, hc⟩ := h (by rw [List.length_map]; omega)
  injection e with e
  injection e with e1 e2
  subst e1 e2
  refine ⟨g, o + m * 6, rfl, hb, fun i c hi j u hj => ?_⟩
  cases i with
  | zero =>
    simp only [List.map_cons, List.map_nil, List.getElem?_cons_zero, Option.some.injEq] at hi
    subst hi
    rw [Nat.zero_mul, Nat.add_zero]
    exact hc m (hdC F[m]) (by rw [List.getElem?_map, List.getElem?_eq_getElem hm]; rfl) j u hj
  | succ i => simp at hi
set_option maxRecDepth 100000 in
set_option maxHeartbeats 3200000 in
theorem elder_all (l1 l2 : List Hd) (A1 A2 : Option Addr) (c1 c2 : Nat) (w : World) (h1 : RowA w w.heap.size 6 A1 (l1.map hdC)) (h2 : RowA w w.heap.size 6 A2 (l2.map hdC)) (z1 : l1.length ≤ 9223372036854775807) (z2 : l2.length ≤ 9223372036854775807) (k1 : CrcOk l1) (k2 : CrcOk l2) :
    Calls Try.prog 3 #[.slice A1 l1.length c1, .slice A2 l2.length c2] w fun e w' => e = .returned (.bool true) ∧ Below w.heap.size w w' := by
  have HR1 := Lib.hid fun W (hb : Below w.heap.size w W) => RowA.below h1 hb
  have HR2 := Lib.hid fun W (hb : Below w.heap.size w W) => RowA.below h2 hb
  have HF1 := Lib.hid fun W h => fews_post l1 A1 c1 W h z1
  have HF2 := Lib.hid fun W h => fews_post l2 A2 c2 W h z2
  have g1 := fewHs_sz k1
  have g2 := fewHs_sz k2
  have f1 := fewHs_len l1
  have f2 := fewHs_len l2
  generalize fewHs l1 = F at *
  generalize fewHs l2 = G at *
  have X1 := Ix.few_none.add tOne F (by decide) g1
  have HX1 := Lib.hid X1
  have HX2 := Lib.hid (X1.add tTwo G (by decide) g2)
  have HYF := Lib.hid (yIx_few g1)
  have HG1 := Lib.hid g1
  have HG2 := Lib.hid g2
  have HEG := Lib.hid fun j (hj : j < F.length) => elder_get (G := G) hj
  have HYA := Lib.hid (yIx_all (F := F))
  clear h1 h2 k1 k2 g1 g2 X1
  have hbx : OneIx w ((w.alloc (.cells #[.map none, .slice none 0 0] 27)).alloc (.cells #[.map none, .slice none 0 0] 27)) w.heap.size none none ⟨[], []⟩ := (OneIx.made w).below ((Below.refl _ _).alloc (Nat.le_refl _) _)
  have hby : OneIx w ((w.alloc (.cells #[.map none, .slice none 0 0] 27)).alloc (.cells #[.map none, .slice none 0 0] 27)) (w.heap.size + 1) none none ⟨[], []⟩ := by
    have := ixAt_new (w.alloc (.cells #[.map none, .slice none 0 0] 27))
    rw [World.size_alloc] at this
    exact ⟨this, (fun k h => by
      rcases h with rfl | e | e
      · omega
      · cases e
      · cases e), hbx.bel⟩
  have HBX := Lib.hid hbx
  have HBY := Lib.hid hby
  clear hbx hby
  go_enter Try.func3, Try.ntmps3
  go_upto_region 2 with fail
  generalize (w.alloc (.cells #[.map none, .slice none 0 0] 27)).alloc (.cells #[.map none, .slice none 0 0] 27) = w0 at *
  go_wp2_with fail
  refine (HF1.out _ (HR1.out _ HBX.out.bel)).mono ?_
  rintro e w1 ⟨Af, cf, rfl, hr1, hf1, hb1, hcf⟩
  have HBX1 := Lib.hid (HBX.out.below hb1)
  have HBY1 := Lib.hid (HBY.out.below hb1)
  have HRF := Lib.hid hr1
  have HFX := Lib.hid (show ∀ g o, Af = some ⟨g, o, none⟩ → ¬ IxF w.heap.size none none g from fun g o e hf => absurd (hf1 g o e) (by have := HBX.out.ix.lt g hf; omega))
  have HFY := Lib.hid (show ∀ g o, Af = some ⟨g, o, none⟩ → ¬ IxF (w.heap.size + 1) none none g from fun g o e hf => absurd (hf1 g o e) (by have := HBY.out.ix.lt g hf; omega))
  clear hr1 hf1 hb1 HBX HBY
  have HC1 := Lib.hid (oneAdd (np := 0) (nq := 0) HBX1.out Ix.few_none (by decide) (by decide) tOne F Af cf HRF.out HFX.out (by omega) (by decide) HG1.out)
  go_wp2_with fail
  refine HC1.out.mono ?_
  rintro e w2 ⟨rfl, mbx, rbx, hox, hgx⟩
  have hapy := HBY1.out.ix.apart hgx (by
    rintro k (rfl | e | e) (h | e' | e')
    · omega
    · cases e'
    · cases e'
    · cases e
    · cases e
    · cases e
    · cases e
    · cases e
    · cases e)
  have HOX := Lib.hid hox
  have HOY := Lib.hid (OneIx.mk hapy.1 HBY1.out.lo hox.bel)
  have HAP := Lib.hid hapy.2
  have HRF2 := Lib.hid (HRF.out.apart hgx HFX.out)
  have HFX2 := Lib.hid (show 0 < F.length → ∀ g o, Af = some ⟨g, o, none⟩ → ¬ IxF w.heap.size mbx rbx g from fun hl => hd_far HRF.out HFX.out (by rw [List.length_map]; exact hl) hgx)
  clear hox hgx hapy HC1 HBX1 HBY1 HFX HRF
  go_wp2
  go_loopw [8] (fun i wr => ∃ (n : Nat) (z : Int) (mby rby : Option Nat), i = .int .i64 z ∧ z + n + 1 = F.length ∧ n ≤ F.length ∧ OneIx w wr (w.heap.size + 1) mby rby (yIx F n) ∧ OneIx w wr w.heap.size mbx rbx ((⟨[], []⟩ : Ix).add tOne F) ∧ (∀ k, IxF w.heap.size mbx rbx k → ¬ IxF (w.heap.size + 1) mby rby k) ∧ RowA wr wr.heap.size 6 Af (F.map hdC) ∧ (∀ g o, Af = some ⟨g, o, none⟩ → ¬ IxF (w.heap.size + 1) mby rby g)) (fun i _ => (intOf i + 1).toNat)
  case atStart => exact ⟨0, _, none, none, rfl, by omega, Nat.zero_le _, HOY.out, HOX.out, HAP.out, HRF2.out, HFY.out⟩
  case round =>
    obtain ⟨n, z, mby, rby, rfl, hz, hn, hoy, hox, hap, hrf, hfy⟩ := hrel
    have HOY3 := Lib.hid hoy
    have HOX3 := Lib.hid hox
    have HAP3 := Lib.hid hap
    have HRF3 := Lib.hid hrf
    have HFY3 := Lib.hid hfy
    have HZ := Lib.hid hz
    clear hoy hox hap hrf hfy HOY HOX HAP HRF2 HFY
    by_cases hz0 : 0 ≤ z
    · obtain ⟨m, rfl⟩ : ∃ m : Nat, z = m := ⟨z.toNat, by omega⟩
      have hm : m < F.length := by omega
      have hzn : n + 1 ≤ F.length := by omega
      have hmn : F.length - (n + 1) = m := by omega
      have hgm : F.getD (F.length - (n + 1)) hd0 = F[m] := by rw [hmn, List.getD_eq_getElem?_getD, List.getElem?_eq_getElem hm]; rfl
      have HYS := Lib.hid (show yIx F (n + 1) = if twiceH F m F[m].name = true then yIx F n else (yIx F n).add tOne [F[m]] by
        show (if twiceH F (F.length - (n + 1)) (F.getD (F.length - (n + 1)) hd0).name = true then yIx F n else (yIx F n).add tOne [F.getD (F.length - (n + 1)) hd0]) = _
        rw [hgm, hmn])
      obtain ⟨gF, oF, rfl, hgF, hFc⟩ := HRF3.out (by rw [List.length_map]; omega)
      have hmc : m ≤ cf := by omega
      have hmc2 : (m : Int) ≤ (cf : Int) := by omega
      have hm0 : (0 : Int) ≤ (m : Int) := by omega
      clear hz hmn hgm
      have hmcl : (m : Int) < (cf : Int) := by omega
      have hmf : (m : Int) < (F.length : Int) := by omega
      have hm3 : ((m : Int)).toNat = m := by omega
      have htw0 : twiceH F 0 F[m].name = false := by simp [twiceH]
      have HTW := Lib.hid fun j (hj : j < F.length) => twiceH_snoc hj F[m].name
      have HNM := Lib.hid (hFc m (hdC F[m]) (by rw [List.getElem?_map, List.getElem?_eq_getElem hm]; rfl) 0 _ rfl)
      have HFC := Lib.hid hFc
      have HTWM := Lib.hid htw0
      clear hFc htw0
      obtain ⟨wq, rfl⟩ : ∃ wq : World, wq = wr := ⟨_, rfl⟩
      go_wp2
      go_loopw [9, 36] (fun tv jv wi => ∃ (j : Nat), tv = .bool (twiceH F j F[m].name) ∧ jv = .int .i64 (j : Nat) ∧ j ≤ m ∧ Below wq.heap.size wq wi) (fun _ jv _ => m - (intOf jv).toNat)
      case atStart => exact ⟨0, by rw [HTWM.out], rfl, Nat.zero_le _, Below.refl _ _⟩
      case round =>
        obtain ⟨j, rfl, rfl, hj, hbi⟩ := hrel
        have HBI := Lib.hid hbi
        clear hbi
        by_cases hjm : j < m
        · have hjF : j < F.length := by omega
          have hck := HFC.out j (hdC F[j]) (by rw [List.getElem?_map, List.getElem?_eq_getElem hjF]; rfl)
          have HCK := Lib.hid fun (i : Nat) (u : Value) (hi : (hdC F[j])[i]? = some u) => (HBI.out.cell (p := ⟨gF, oF + j * 6 + i, none⟩) hgF).trans (hck i u hi)
          have hsn := HTW.out j hjF
          have hne := txt_ne F[j].name F[m].name
          clear hck
          generalize decide (F[j].name = F[m].name) = dq at *
          generalize F[j] = hd at *
          have HSN := Lib.hid hsn
          clear hsn
          have q0 : wr.cell? ⟨gF, oF + j * 6, none⟩ = some (.string hd.name) := HCK.out 0 _ rfl
          have q1 : wr.cell? ⟨gF, oF + j * 6 + 1, none⟩ = some (.int .i64 hd.method) := HCK.out 1 _ rfl
          have q2 : wr.cell? ⟨gF, oF + j * 6 + 2, none⟩ = some (.int .u32 hd.crc) := HCK.out 2 _ rfl
          have q3 : wr.cell? ⟨gF, oF + j * 6 + 3, none⟩ = some (.int .i64 hd.packed) := HCK.out 3 _ rfl
          have q4 : wr.cell? ⟨gF, oF + j * 6 + 4, none⟩ = some (.int .i64 hd.size) := HCK.out 4 _ rfl
          have q5 : wr.cell? ⟨gF, oF + j * 6 + 5, none⟩ = some (.int .i64 hd.at_) := HCK.out 5 _ rfl
          have hj0 : (0 : Int) ≤ (j : Int) := by omega
          have hj1 : (j : Int) < (m : Int) := by omega
          have hj3 : ((j : Int)).toNat = j := by omega
          clear HCK
          generalize twiceH F j F[m].name = tb at *
          go_upto_region 11 with fail
          have hba : Below wr.heap.size wr (wr.alloc (.cells #[.string hd.name, .int .i64 hd.method, .int .u32 hd.crc, .int .i64 hd.packed, .int .i64 hd.size, .int .i64 hd.at_] 32)) := (Below.refl _ _).alloc (Nat.le_refl _) _
          have hka := Blk.new wr 32 #[.string hd.name, .int .i64 hd.method, .int .u32 hd.crc, .int .i64 hd.packed, .int .i64 hd.size, .int .i64 hd.at_]
          have HBA := Lib.hid (HBI.out.trans (hba.mono HBI.out.size))
          clear hba q0 q1 q2 q3 q4 q5 hj0 hj1 hj3
          generalize wr.alloc (.cells #[.string hd.name, .int .i64 hd.method, .int .u32 hd.crc, .int .i64 hd.packed, .int .i64 hd.size, .int .i64 hd.at_] 32) = wa at *
          have a0 : wa.cell? ⟨wr.heap.size, 0, none⟩ = some (.string hd.name) := hka.cell 0
          have n0 : wa.cell? ⟨gF, oF + m * 6, none⟩ = some (.string F[m].name) := (HBA.out.cell (p := ⟨gF, oF + m * 6, none⟩) hgF).trans HNM.out
          clear hka
          cases tb with
          | true =>
            go_quiet (fail)
            go_wp2
            go_roundw
            case rel => exact ⟨j + 1, by rw [HSN.out]; rfl, by go_num, by omega, Go.below_drewN HBA.out nq⟩
            case measure => simp [intOf]; omega
          | false =>
            go_quiet (fail)
            go_wp2
            go_roundw
            case rel => exact ⟨j + 1, by rw [HSN.out, Bool.false_or], by go_num, by omega, Go.below_drewN HBA.out nq⟩
            case measure => simp [intOf]; omega
        · have hjm2 : j = m := by omega
          subst hjm2
          have HOY4 := Lib.hid (HOY3.out.below HBI.out)
          have HOX4 := Lib.hid (HOX3.out.below HBI.out)
          have HRF4 := Lib.hid (RowA.below HRF3.out HBI.out)
          clear HFC HNM HTW HTWM
          cases htw : twiceH F j F[j].name with
          | true =>
            have HE := Lib.hid (HYS.out.trans (if_pos htw))
            clear htw
            go_wp2
            go_roundw
            case rel => exact ⟨n + 1, (j : Int) - 1, mby, rby, rfl, by have := HZ.out; omega, by omega, by rw [HE.out]; exact HOY4.out, HOX4.out, HAP3.out, HRF4.out, HFY3.out⟩
            case measure => simp [intOf]
          | false =>
            have HE := Lib.hid (HYS.out.trans (if_neg (by rw [htw]; simp)))
            have HC4 := Lib.hid (oneAdd (np := 1) (nq := n) HOY4.out (HYF.out n (by omega)) (by decide) (by omega) tOne [F[j]] (some ⟨gF, oF + j * 6, none⟩) (cf - j) (HRF4.out.one hm) (fun g o e => by
              injection e with e
              injection e with e1 e2
              subst e1
              exact HFY3.out _ oF rfl) (by simp) (by decide) (fun g hg => by rw [List.mem_singleton.1 hg]; exact HG1.out _ (List.getElem_mem hm)))
            clear htw
            go_wp2_with fail
            refine HC4.out.mono ?_
            rintro e w5 ⟨rfl, mby2, rby2, hoy5, hgy⟩
            obtain ⟨hix, hap5⟩ := HOX4.out.ix.apart hgy (fun k hy hx => HAP3.out k hx hy)
            rw [← HE.out] at hoy5
            have HOY5 := Lib.hid hoy5
            have HOX5 := Lib.hid (OneIx.mk hix HOX4.out.lo hoy5.bel)
            have HAP5 := Lib.hid (fun k hx hy => hap5 k hy hx : ∀ k, IxF w.heap.size mbx rbx k → ¬ IxF (w.heap.size + 1) mby2 rby2 k)
            have HRF5 := Lib.hid (HRF4.out.apart hgy HFY3.out)
            have HFY5 := Lib.hid (hd_far HRF4.out HFY3.out (by rw [List.length_map]; omega) hgy)
            clear hoy5 hix hap5 hgy HC4 HE HYS HOY4 HOX4 HAP3 HRF4 HFY3 HRF3 HOY3 HOX3
            go_wp2
            go_roundw
            case rel => exact ⟨n + 1, (j : Int) - 1, mby2, rby2, rfl, by have := HZ.out; omega, by omega, HOY5.out, HOX5.out, HAP5.out, HRF5.out, HFY5.out⟩
            case measure => simp [intOf]
    · have hnF : n = F.length := by omega
      subst hnF
      have hYf := HYF.out F.length (Nat.le_refl _)
      have HY2 := Lib.hid (hYf.add tTwo G (by decide) HG2.out)
      have HYf := Lib.hid hYf
      clear hYf HZ hz
      go_wp2_with fail
      refine (HF2.out _ (HR2.out _ HOX3.out.bel)).mono ?_
      rintro e w3 ⟨Ag, cg, rfl, hrg, hfg, hb3, _⟩
      have HOX4 := Lib.hid (HOX3.out.below hb3)
      have HOY4 := Lib.hid (HOY3.out.below hb3)
      have HRF4 := Lib.hid (RowA.below HRF3.out hb3)
      have HC4 := Lib.hid (oneAdd HOX4.out HX1.out (by omega) (by omega) tTwo G Ag cg hrg (fun g o e hf => absurd (hfg g o e) (by have := HOX3.out.ix.lt g hf; omega)) (by omega) (by decide) HG2.out)
      clear hrg hfg hb3
      go_wp2_with fail
      refine HC4.out.mono ?_
      rintro e w4 ⟨rfl, mbx2, rbx2, hox4, hgx⟩
      obtain ⟨hiy, hap4⟩ := HOY4.out.ix.apart hgx HAP3.out
      have HOX5 := Lib.hid hox4
      have HOY5 := Lib.hid (OneIx.mk hiy HOY4.out.lo hox4.bel)
      have HAP5 := Lib.hid hap4
      have HRF5 := Lib.hid (show RowA w4 w4.heap.size 6 Af (F.map hdC) from fun hl => (HRF4.out.apart hgx (HFX2.out (by rwa [List.length_map] at hl))) hl)
      clear hox4 hgx hiy hap4 HC4 HOX4 HOY4 HAP3 HRF4 HOX3 HOY3 HRF3
      go_wp2_with fail
      refine (HF2.out _ (HR2.out _ HOX5.out.bel)).mono ?_
      rintro e w5 ⟨Ah, ch, rfl, hrg, hfg, hb5, _⟩
      have HOX6 := Lib.hid (HOX5.out.below hb5)
      have HOY6 := Lib.hid (HOY5.out.below hb5)
      have HRF6 := Lib.hid (RowA.below HRF5.out hb5)
      have HC6 := Lib.hid (oneAdd HOY6.out HYf.out (by decide) (by omega) tTwo G Ah ch hrg (fun g o e hf => absurd (hfg g o e) (by have := HOY5.out.ix.lt g hf; omega)) (by omega) (by decide) HG2.out)
      clear hrg hfg hb5
      go_wp2_with fail
      refine HC6.out.mono ?_
      rintro e w6 ⟨rfl, mby3, rby3, hoy6, hgy⟩
      obtain ⟨hix, _⟩ := HOX6.out.ix.apart hgy (fun k hy hx => HAP5.out k hx hy)
      have HOX7 := Lib.hid (OneIx.mk hix HOX6.out.lo hoy6.bel)
      have HOY7 := Lib.hid hoy6
      have HRF7 := Lib.hid (show 0 < F.length → RowA w6 w6.heap.size 6 Af (F.map hdC) from fun hl => HRF6.out.apart hgy HFY3.out)
      clear hoy6 hgy hix HC6 HOX6 HOY6 HAP5 HRF6 HFY3 HOX5 HOY5 HRF5
      obtain ⟨wq, rfl⟩ : ∃ wq : World, wq = wr := ⟨_, rfl⟩
      go_wp2
      go_loopw [71] (fun i wi => ∃ (k : Nat), i = .int .i64 (k : Nat) ∧ k ≤ F.length ∧ Below w6.heap.size w6 wi) (fun i _ => F.length - (intOf i).toNat)
      case atStart => exact ⟨0, rfl, Nat.zero_le _, Below.refl _ _⟩
      case round =>
        obtain ⟨k, rfl, hk, hbi⟩ := hrel
        have HBI := Lib.hid hbi
        clear hbi
        by_cases hkl : k < F.length
        · obtain ⟨gF, oF, rfl, hgF, hFc⟩ := HRF7.out (by omega) (by rw [List.length_map]; omega)
          have hck := hFc k (hdC F[k]) (by rw [List.getElem?_map, List.getElem?_eq_getElem hkl]; rfl)
          have HCK := Lib.hid fun (i : Nat) (u : Value) (hi : (hdC F[k])[i]? = some u) => (HBI.out.cell (p := ⟨gF, oF + k * 6 + i, none⟩) hgF).trans (hck i u hi)
          obtain ⟨he, heg⟩ := HEG.out k hkl
          have hnz := (HG1.out _ (List.getElem_mem hkl)).1
          clear hck hFc
          generalize F[k] = hd at *
          have hfi := fun W h => find_any w.heap.size mbx2 rbx2 (((⟨[], []⟩ : Ix).add tOne F).add tTwo G) hd.name W h (by omega)
          rw [heg] at hfi
          unfold plV plC tOne at hfi
          simp only [Option.getD_some, Option.isSome_some] at hfi
          have HFI := Lib.hid hfi
          clear hfi heg
          have q0 : wr.cell? ⟨gF, oF + k * 6, none⟩ = some (.string hd.name) := HCK.out 0 _ rfl
          have q1 : wr.cell? ⟨gF, oF + k * 6 + 1, none⟩ = some (.int .i64 hd.method) := HCK.out 1 _ rfl
          have q2 : wr.cell? ⟨gF, oF + k * 6 + 2, none⟩ = some (.int .u32 hd.crc) := HCK.out 2 _ rfl
          have q3 : wr.cell? ⟨gF, oF + k * 6 + 3, none⟩ = some (.int .i64 hd.packed) := HCK.out 3 _ rfl
          have q4 : wr.cell? ⟨gF, oF + k * 6 + 4, none⟩ = some (.int .i64 hd.size) := HCK.out 4 _ rfl
          have q5 : wr.cell? ⟨gF, oF + k * 6 + 5, none⟩ = some (.int .i64 hd.at_) := HCK.out 5 _ rfl
          have hk0 : (0 : Int) ≤ (k : Int) := by omega
          have hk1 : (k : Int) < (F.length : Int) := by omega
          have hk3 : ((k : Int)).toNat = k := by omega
          clear HCK
          go_upto_region 20 with fail
          have hba : Below wr.heap.size wr (wr.alloc (.cells #[.string hd.name, .int .i64 hd.method, .int .u32 hd.crc, .int .i64 hd.packed, .int .i64 hd.size, .int .i64 hd.at_] 32)) := (Below.refl _ _).alloc (Nat.le_refl _) _
          have hka := Blk.new wr 32 #[.string hd.name, .int .i64 hd.method, .int .u32 hd.crc, .int .i64 hd.packed, .int .i64 hd.size, .int .i64 hd.at_]
          have HBA := Lib.hid (HBI.out.trans (hba.mono HBI.out.size))
          clear hba q0 q1 q2 q3 q4 q5 hk0 hk1 hk3
          generalize wr.alloc (.cells #[.string hd.name, .int .i64 hd.method, .int .u32 hd.crc, .int .i64 hd.packed, .int .i64 hd.size, .int .i64 hd.at_] 32) = wa at *
          have a0 : wa.cell? ⟨wr.heap.size, 0, none⟩ = some (.string hd.name) := hka.cell 0
          clear hka
          go_wp2_with fail
          refine (HFI.out _ (HOX7.out.ix.below HBA.out)).mono ?_
          rintro e w7 ⟨rfl, hb7⟩
          have HB7 := Lib.hid (HBA.out.trans (hb7.mono HBA.out.size))
          clear hb7 a0
          go_wp2
          go_roundw
          case rel => exact ⟨k + 1, by go_num, by omega, HB7.out.alloc HB7.out.size _⟩
          case measure => simp [intOf]; omega
        · have hkF : k = F.length := by omega
          have HX9 := Lib.hid (HOX7.out.below HBI.out)
          have HY9 := Lib.hid (HOY7.out.below HBI.out)
          have h3 := HX2.out.np
          have h4 := HX2.out.nq
          have h5 := HY2.out.np
          have h6 := HY2.out.nq
          have HEX := Lib.hid fun W h => ienc_any w.heap.size mbx2 rbx2 _ W h (HX2.out.wr (by omega) (by omega))
          by_cases hF0 : F.length = 0
          · have hq : ((F.length : Int) == 0) = true := beq_iff_eq.2 (by omega)
            clear h3 h4 h5 h6
            go_wp2_with fail
            refine (awake_any _).mono ?_
            rintro e v1 ⟨rfl, hb1⟩
            have HX10 := Lib.hid (HX9.out.below hb1)
            clear hb1
            go_wp2
            go_ret
            exact ⟨rfl, HX10.out.bel⟩
          · have hq : ((F.length : Int) == 0) = false := beq_eq_false_iff_ne.2 (by omega)
            have HYE := HYA.out (by omega)
            have hy9 := HY9.out
            rw [HYE] at hy9
            have HY10 := Lib.hid hy9
            have HEY := Lib.hid fun W h => ienc_any (w.heap.size + 1) mby3 rby3 _ W h (HX2.out.wr (by omega) (by omega))
            clear hy9 HYE h3 h4 h5 h6 hF0
            generalize ((⟨[], []⟩ : Ix).add tOne F).add tTwo G = Z at *
            generalize bs (encI Z) = E at *
            have hx : (E.toList == E.toList) = true := by simp
            go_wp2_with fail
            refine (awake_any _).mono ?_
            rintro e v1 ⟨rfl, hb1⟩
            have HX11 := Lib.hid (HX9.out.below hb1)
            have HY11 := Lib.hid (HY10.out.below hb1)
            clear hb1
            go_wp2_with fail
            refine (HEX.out _ HX11.out.ix).mono ?_
            rintro e v2 ⟨rfl, hb2⟩
            have HY12 := Lib.hid (HY11.out.below hb2)
            clear hb2
            go_wp2_with fail
            refine (HEY.out _ HY12.out.ix).mono ?_
            rintro e v3 ⟨rfl, hb3⟩
            have HY13 := Lib.hid (HY12.out.below hb3)
            clear hb3
            go_wp2
            go_ret
            exact ⟨rfl, HY13.out.bel⟩
end Go.Proofs.Ytopmanmjggcfaaa
