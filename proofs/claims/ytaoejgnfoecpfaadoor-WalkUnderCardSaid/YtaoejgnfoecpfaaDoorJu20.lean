/- What is in a folder, as the document says it, walked. WalkUnder: its walk. -/
import Derived.Test.YtaoejgnfoecpfaaDoorJu19
namespace Go.Proofs.YtaoejgnfoecpfaaDoor
set_option linter.unusedVariables false
set_option linter.unusedSimpArgs false
set_option linter.unusedSectionVars false
open Go.RowKit

set_option maxRecDepth 100000 in
set_option maxHeartbeats 6400000 in
theorem runder_any (A : Option Addr) (c : Nat) (l : List Itm) (at_ : ByteArray) (w : World) (hi : ItmA w A l) (hb : ∀ x ∈ l, ItB x) (hl : (l.length + 1) * 56 ≤ 140737488355328) (haz : at_.size ≤ 140737488355328) :
    Calls Tryd.prog 56 #[.slice A l.length c, .string at_] w fun e w' => ∃ B d, e = .returned (.slice B (l.filter fun x => underI at_ x.path).length d) ∧ w'.ownsRow w.heap.size 59 5 (.slice B (l.filter fun x => underI at_ x.path).length d) (l.filter fun x => underI at_ x.path).length (itmsC (l.filter fun x => underI at_ x.path)) ∧ Below w.heap.size w w' := by
  have HN := Lib.hid fun W (hb : Below w.heap.size w W) => hi.below hb
  have HIB := Lib.hid hb
  have HB0 := Lib.hid ((Below.refl w.heap.size w).alloc (Nat.le_refl _) (.cells #[] 59))
  have HO0 := Lib.hid (own_emptyI (w := w) (B := w.heap.size) (Nat.le_refl _))
  clear hi hb
  have hea : at_.toList.isEmpty = decide (at_.size = 0) := toList_isEmpty at_
  go_enter Tryd.func56, Tryd.ntmps56
  go_wp2
  go_loopw [5, 11] (fun ov iv wr => ∃ (k : Nat) (B : Option Addr) (d : Nat) (acc : List Itm), ov = .slice B acc.length d ∧ iv = .int .i64 (k : Nat) ∧ k ≤ l.length ∧ acc.length ≤ k ∧ Hid (acc = (l.take k).filter fun x => underI at_ x.path) ∧ Hid (wr.ownsRow w.heap.size 59 5 (.slice B acc.length d) acc.length (itmsC acc)) ∧ Hid (Below w.heap.size w wr)) (fun _ iv _ => l.length - (intOf iv).toNat)
  case atStart => exact ⟨0, _, 0, [], rfl, rfl, Nat.zero_le _, Nat.zero_le _, Lib.hid (by simp), HO0, HB0⟩
  case round =>
    clear HB0 HO0
    obtain ⟨k, B, d, acc, rfl, rfl, hk, hak, HAC, HO, HB⟩ := hrel
    by_cases hkl : k < l.length
    · have hki : (k : Int) < (l.length : Int) := by omega
      have hs := @filter_snoc (fun x => underI at_ x.path) l k hkl
      have hbx := HIB.out _ (List.getElem_mem hkl)
      obtain ⟨g, o, rfl, hg, hcc⟩ := HN.out wr HB.out (by omega)
      obtain ⟨q0, q1, q2, q3, q4⟩ := itm_cells hcc hkl
      clear hcc
      rw [← HAC.out] at hs
      generalize l[k] = x at *
      obtain ⟨pa, ki, mo, ti, da⟩ := x
      have hpz : pa.size ≤ 140737488355328 := hbx.path
      clear hbx
      have hba := (Below.refl wr.heap.size wr).alloc (Nat.le_refl _) (.cells #[.string pa, .int .i64 ki, .int .i64 mo, .int .i64 ti, .string da] 59)
      have HB2 := Lib.hid (HB.out.trans (hba.mono HB.out.size))
      have HK := Lib.hid (Blk.new wr 59 #[.string pa, .int .i64 ki, .int .i64 mo, .int .i64 ti, .string da])
      have HO2 := Lib.hid (own_atN HO.out fun i hi => hba.block i (HO.out.lt i hi).2)
      simp only at hs q0 q1 q2 q3 q4
      have HS := Lib.hid hs
      clear hs hba
      obtain ⟨wo, rfl⟩ : ∃ wo : World, wo = wr := ⟨_, rfl⟩
      go_upto_region 5 with fail
      generalize wo.alloc (.cells #[.string pa, .int .i64 ki, .int .i64 mo, .int .i64 ti, .string da] 59) = w1 at *
      obtain c0 : w1.cell? ⟨wo.heap.size, 0, none⟩ = some (.string pa) := HK.out.cell 0
      obtain c1 : w1.cell? ⟨wo.heap.size, 1, none⟩ = some (.int .i64 ki) := HK.out.cell 1
      obtain c2 : w1.cell? ⟨wo.heap.size, 2, none⟩ = some (.int .i64 mo) := HK.out.cell 2
      obtain c3 : w1.cell? ⟨wo.heap.size, 3, none⟩ = some (.int .i64 ti) := HK.out.cell 3
      obtain c4 : w1.cell? ⟨wo.heap.size, 4, none⟩ = some (.string da) := HK.out.cell 4
      by_cases h0 : at_.size = 0
      · rw [decide_eq_true h0] at hea
        have HV := Lib.hid (HS.out.trans (by rw [under_no at_ pa h0]; simp : _ = acc))
        clear h0
        go_wp2
        go_roundw
        case rel => exact ⟨k + 1, B, d, acc, rfl, by go_num, by omega, by omega, Lib.hid HV.out.symm, HO2, HB2⟩
        case measure => simp [intOf]; omega
      · rw [decide_eq_false h0] at hea
        by_cases hpa : pa = at_
        · have hx : (pa.toList == at_.toList) = true := by rw [txt_eqb, decide_eq_true hpa]
          have HPA := Lib.hid (show underI at_ pa = true by rw [hpa]; exact under_self h0)
          have HV := Lib.hid (HS.out.trans (by rw [HPA.out]; simp : _ = acc ++ [⟨pa, ki, mo, ti, da⟩]))
          have hl4 : (itmsC acc).length = acc.length * 5 := itmsC_len acc
          clear h0 hpa
          go_wp2_with (at_builtin; refine wpList_app1s rfl _ _ 49 rfl w.heap.size 59 Tryd.underlying49 infoItem rfl (by decide) _ _ _ rfl HO2.out _ (by simp) rfl rfl (by simp [Value.oneCell']) (by omega) (by omega) HB2.out.size ?_; intro g5 cap5 w5 ho5 hg5 hb5 hl5
                       have HO5 := Lib.hid (show w5.ownsRow w.heap.size 59 5 (.slice (some ⟨g5, 0, none⟩) (acc.length + 1) cap5) (acc.length + 1) (itmsC (acc ++ [⟨pa, ki, mo, ti, da⟩])) by
                         rw [itmsC_add]
                         exact ho5)
                       have HB5 := Lib.hid (HB2.out.grown hg5 HB2.out.size fun j hj => (HO2.out.lt j hj).1)
                       clear ho5 hg5 hb5 hl5)
          go_wp2
          go_roundw
          case rel => exact ⟨k + 1, some ⟨g5, 0, none⟩, cap5, acc ++ [⟨pa, ki, mo, ti, da⟩], by simp, by go_num, by omega, by simp; omega, Lib.hid HV.out.symm, Lib.hid (by simpa using HO5.out), HB5⟩
          case measure => simp [intOf]; omega
        · have hx : (pa.toList == at_.toList) = false := by rw [txt_eqb, decide_eq_false hpa]
          by_cases hsz : at_.size < pa.size
          · have hszi : (at_.size : Int) < (pa.size : Int) := by omega
            have h1 : (at_.size : Int) + 1 ≤ (pa.size : Int) := by omega
            have h2 : (0 : Int) ≤ (at_.size : Int) + 1 := by omega
            have h3 : ((at_.size : Int) + 1).toNat = at_.size + 1 := by omega
            have hvw := under_pre h0 hpa hsz
            rw [← txt_eqb] at hvw
            have HU := Lib.hid hvw
            clear hvw
            have HR := fun W => run_string_add_sum (P := Tryd.prog) W at_ (⟨#[47]⟩ : ByteArray) (by show at_.size + 1 ≤ _; omega)
            cases hq : ((pa.extract 0 (at_.size + 1)).toList == (at_ ++ (⟨#[47]⟩ : ByteArray)).toList) with
            | true =>
              have HV := Lib.hid (HS.out.trans (by rw [HU.out, hq]; simp : _ = acc ++ [⟨pa, ki, mo, ti, da⟩]))
              have hl4 : (itmsC acc).length = acc.length * 5 := itmsC_len acc
              clear h0 hpa hsz
              go_wp2_with (at_builtin; refine wpList_app1s rfl _ _ 49 rfl w.heap.size 59 Tryd.underlying49 infoItem rfl (by decide) _ _ _ rfl HO2.out _ (by simp) rfl rfl (by simp [Value.oneCell']) (by omega) (by omega) HB2.out.size ?_; intro g5 cap5 w5 ho5 hg5 hb5 hl5
                           have HO5 := Lib.hid (show w5.ownsRow w.heap.size 59 5 (.slice (some ⟨g5, 0, none⟩) (acc.length + 1) cap5) (acc.length + 1) (itmsC (acc ++ [⟨pa, ki, mo, ti, da⟩])) by
                             rw [itmsC_add]
                             exact ho5)
                           have HB5 := Lib.hid (HB2.out.grown hg5 HB2.out.size fun j hj => (HO2.out.lt j hj).1)
                           clear ho5 hg5 hb5 hl5)
              go_wp2
              go_roundw
              case rel => exact ⟨k + 1, some ⟨g5, 0, none⟩, cap5, acc ++ [⟨pa, ki, mo, ti, da⟩], by simp, by go_num, by omega, by simp; omega, Lib.hid HV.out.symm, Lib.hid (by simpa using HO5.out), HB5⟩
              case measure => simp [intOf]; omega
            | false =>
              have HV := Lib.hid (HS.out.trans (by rw [HU.out, hq]; simp : _ = acc))
              clear h0 hpa hsz
              go_wp2
              go_roundw
              case rel => exact ⟨k + 1, B, d, acc, rfl, by go_num, by omega, by omega, Lib.hid HV.out.symm, HO2, HB2⟩
              case measure => simp [intOf]; omega
          · have hszi : ¬ (at_.size : Int) < (pa.size : Int) := by omega
            have HV := Lib.hid (HS.out.trans (by rw [under_short h0 hpa hsz]; simp : _ = acc))
            clear h0 hpa hsz
            go_wp2
            go_roundw
            case rel => exact ⟨k + 1, B, d, acc, rfl, by go_num, by omega, by omega, Lib.hid HV.out.symm, HO2, HB2⟩
            case measure => simp [intOf]; omega
    · obtain rfl : k = l.length := by omega
      have hki : ¬ (l.length : Int) < (l.length : Int) := by omega
      have HV := Lib.hid HAC.out
      rw [List.take_length] at HV
      go_wp2
      go_ret
      rw [← HV.out]
      exact ⟨B, d, rfl, HO.out, HB.out⟩
end Go.Proofs.YtaoejgnfoecpfaaDoor
namespace Go.Proofs.YtaoejgnfoecpfaaDoor
set_option linter.unusedVariables false
set_option linter.unusedSimpArgs false
set_option linter.unusedSectionVars false
open Go.RowKit

/-- a path that doesn't begin with a slash -/
def goodP (p : ByteArray) : Bool := if h : 0 < p.size then !decide (p[0] = 47) else false
theorem good_no {p : ByteArray} (h : ¬ 0 < p.size) : goodP p = false := by
  unfold goodP
  rw [dif_neg h]
theorem good_at {p : ByteArray} (h : 0 < p.size) : goodP p = !decide (p[0] = 47) := by
  unfold goodP
  rw [dif_pos h]
theorem byte47 (c : UInt8) : (c.toNat : Int) = 47 ↔ c = 47 := by
  constructor
  · intro e
    apply UInt8.toNat_inj.1
    have : c.toNat = 47 := by omega
    rw [this]; rfl
  · rintro rfl; rfl
theorem ItmA.grown {w w' : World} {A : Option Addr} {l : List Itm} {row : Option Nat} (h : ItmA w A l) (hg : w.grownBy w' row) (hne : ∀ g o, A = some ⟨g, o, none⟩ → row ≠ some g) : ItmA w' A l := fun hl => by
  obtain ⟨g, o, h1, h2, h3⟩ := h hl
  have hb := hg.block g h2 (fun e => hne g o h1 e.symm)
  exact ⟨g, o, h1, Nat.lt_of_lt_of_le h2 hg.size, fun i x hx j u hj => (World.cell?_of_block (w := w) hb).trans (h3 i x hx j u hj)⟩
set_option maxRecDepth 100000 in
set_option maxHeartbeats 6400000 in
theorem wunder_all (A : Option Addr) (c : Nat) (l : List Itm) (at_ : ByteArray) (w : World) (he : Env w) (hi : ItmA w A l) (hb : ∀ x ∈ l, ItB x) (hn : A = none → c = 0) (hc : l.length ≤ c) (haz : at_.size ≤ 140737488355328) :
    Calls Tryd.prog 11 #[.slice A l.length c, .string at_] w fun e w' => e = .returned (.bool true) ∧ Below w.heap.size w w' := by
  have HE := Lib.hid fun W (hb : Below w.heap.size w W) => he.below hb
  have HAW := Lib.hid fun W (h : Env W) => awake13_any W h
  have hb0 := (Below.refl w.heap.size w).alloc (Nat.le_refl _) (.cells #[] 59)
  have HB0 := Lib.hid hb0
  have HO0 := Lib.hid (own_emptyI (w := w) (B := w.heap.size) (Nat.le_refl _))
  have HF := Lib.hid (ifew_any A c l 100 (w.alloc (.cells #[] 59)) (hi.below hb0) hn hc (by decide))
  have HLB := Lib.hid (show ∀ x ∈ l.take 100, ItB x from fun x hx => hb x (List.mem_of_mem_take hx))
  have hl100 : (l.take 100).length ≤ 100 := by rw [List.length_take]; omega
  clear he hi hb hb0 hn hc
  generalize l.take 100 = L at *
  go_enter Tryd.func11, Tryd.ntmps11
  go_wp2_with fail
  refine HF.out.mono ?_
  rintro e w1 ⟨A1, c1, rfl, ho1, hn1, hb1⟩
  have HB1 := Lib.hid (HB0.out.trans (hb1.mono HB0.out.size))
  have HO1 := Lib.hid (own_atN HO0.out fun i hi => hb1.block i (HO0.out.lt i hi).2)
  have HG1 := Lib.hid (show ∀ g o, A1 = some ⟨g, o, none⟩ → w.heap.size < g ∧ g < w1.heap.size from fun g o e => by
    have := ho1.lt g (by rw [e]; rfl)
    rw [World.size_alloc] at this
    omega)
  have HI1 := Lib.hid (own_itmA ho1 rfl)
  clear HF ho1 hb1
  go_wp2
  go_loopw [5, 6, 13] (fun ov sv iv wr => ∃ (k : Nat) (B : Option Addr) (d : Nat) (acc : List Itm), ov = .slice B acc.length d ∧ sv = .int .i64 (sizeW acc) ∧ iv = .int .i64 (k : Nat) ∧ k ≤ L.length ∧ acc.length ≤ k ∧ Hid (acc = (L.take k).filter fun x => goodP x.path) ∧ Hid (wr.ownsRow w.heap.size 59 5 (.slice B acc.length d) acc.length (itmsC acc)) ∧ Hid (Below w.heap.size w wr) ∧ Hid (ItmA wr A1 L) ∧ Hid (∀ i, (Value.slice B acc.length d).ownBlock = some i → i = w.heap.size ∨ w1.heap.size ≤ i) ∧ w1.heap.size ≤ wr.heap.size) (fun _ _ iv _ => L.length - (intOf iv).toNat)
  case atStart => exact ⟨0, _, 0, [], rfl, rfl, rfl, Nat.zero_le _, Nat.zero_le _, Lib.hid (by simp), HO1, HB1, HI1, Lib.hid (fun i hi => .inl (by cases hi; rfl)), Nat.le_refl _⟩
  case round =>
    clear HB1 HO1 HI1 HB0 HO0
    obtain ⟨k, B, d, acc, rfl, rfl, rfl, hk, hak, HAC, HO, HB, HI, HOB, hwz⟩ := hrel
    by_cases hkl : k < L.length
    · have hki : (k : Int) < (L.length : Int) := by omega
      have hs := @filter_snoc (fun x => goodP x.path) L k hkl
      have hbx := HLB.out _ (List.getElem_mem hkl)
      have hsw := sizeW_snoc acc L[k]
      obtain ⟨g, o, rfl, hg, hcc⟩ := HI.out (by omega)
      obtain ⟨q0, q1, q2, q3, q4⟩ := itm_cells hcc hkl
      clear hcc
      rw [← HAC.out] at hs
      generalize L[k] = x at *
      obtain ⟨pa, ki, mo, ti, da⟩ := x
      have hpz : pa.size ≤ 140737488355328 := hbx.path
      clear hbx
      have hba := (Below.refl wr.heap.size wr).alloc (Nat.le_refl _) (.cells #[.string pa, .int .i64 ki, .int .i64 mo, .int .i64 ti, .string da] 59)
      have HB2 := Lib.hid (HB.out.trans (hba.mono HB.out.size))
      have HK := Lib.hid (Blk.new wr 59 #[.string pa, .int .i64 ki, .int .i64 mo, .int .i64 ti, .string da])
      have HO2 := Lib.hid (own_atN HO.out fun i hi => hba.block i (HO.out.lt i hi).2)
      have HI2 := Lib.hid (HI.out.below hba)
      have hwz2 : w1.heap.size ≤ (wr.alloc (.cells #[.string pa, .int .i64 ki, .int .i64 mo, .int .i64 ti, .string da] 59)).heap.size := Nat.le_trans hwz hba.size
      simp only at hs q0 q1 q2 q3 q4 hsw
      have HS := Lib.hid hs
      have HSW := Lib.hid hsw
      clear hs hba hsw
      obtain ⟨wo, rfl⟩ : ∃ wo : World, wo = wr := ⟨_, rfl⟩
      go_upto_region 6 with fail
      generalize wo.alloc (.cells #[.string pa, .int .i64 ki, .int .i64 mo, .int .i64 ti, .string da] 59) = w2 at *
      obtain c0 : w2.cell? ⟨wo.heap.size, 0, none⟩ = some (.string pa) := HK.out.cell 0
      obtain c1' : w2.cell? ⟨wo.heap.size, 1, none⟩ = some (.int .i64 ki) := HK.out.cell 1
      obtain c2 : w2.cell? ⟨wo.heap.size, 2, none⟩ = some (.int .i64 mo) := HK.out.cell 2
      obtain c3 : w2.cell? ⟨wo.heap.size, 3, none⟩ = some (.int .i64 ti) := HK.out.cell 3
      obtain c4 : w2.cell? ⟨wo.heap.size, 4, none⟩ = some (.string da) := HK.out.cell 4
      by_cases h0 : 0 < pa.size
      · have h0i : (0 : Int) < (pa.size : Int) := by omega
        by_cases h47 : pa[0] = 47
        · have hq : (pa[0].toNat : Int) = 47 := (byte47 _).2 h47
          have hqb : ((pa[0].toNat : Int) != 47) = false := by rw [hq]; rfl
          have HV := Lib.hid (HS.out.trans (by rw [good_at h0, decide_eq_true h47]; simp : _ = acc))
          clear h47
          go_wp2
          go_roundw
          case rel => exact ⟨k + 1, B, d, acc, rfl, rfl, by go_num, by omega, by omega, Lib.hid HV.out.symm, HO2, HB2, HI2, HOB, hwz2⟩
          case measure => simp [intOf]; omega
        · have hq : ¬ (pa[0].toNat : Int) = 47 := fun e => h47 ((byte47 _).1 e)
          have hqb : ((pa[0].toNat : Int) != 47) = true := by simpa using hq
          have HV := Lib.hid (HS.out.trans (by rw [good_at h0, decide_eq_false h47]; simp : _ = acc ++ [⟨pa, ki, mo, ti, da⟩]))
          have hl4 : (itmsC acc).length = acc.length * 5 := itmsC_len acc
          have HNE := Lib.hid (show ∀ i, (Value.slice B acc.length d).ownBlock = some i → i ≠ wo.heap.size from fun i hi e => by
            have := (HO.out.lt i hi).2
            omega)
          have HNI := Lib.hid (show ∀ g' o', (some (⟨g, o, none⟩ : Addr)) = some ⟨g', o', none⟩ → (Value.slice B acc.length d).ownBlock ≠ some g' from fun g' o' e hi => by
            have h1 := HG1.out g' o' e
            rcases HOB.out g' hi with h2 | h2 <;> omega)
          generalize hn0 : sizeW acc = n0 at *
          obtain ⟨wv, hwv⟩ : ∃ wv, IntKind.i64.wrap (n0 + (da.size : Int)) = wv := ⟨_, rfl⟩
          clear h47 hn0
          by_cases hk2 : ki = 2
          · subst hk2
            have HSZ := Lib.hid (HSW.out.trans ((if_pos rfl).trans hwv))
            clear HSW
            go_wp2_with (at_builtin; refine wpList_app1s rfl _ _ 49 rfl w.heap.size 59 Tryd.underlying49 infoItem rfl (by decide) _ _ _ rfl HO2.out _ (by simp) rfl rfl (by simp [Value.oneCell']) (by omega) (by omega) HB2.out.size ?_; intro g5 cap5 w5 ho5 hg5 hb5 hl5
                         have HO5 := Lib.hid (show w5.ownsRow w.heap.size 59 5 (.slice (some ⟨g5, 0, none⟩) (acc.length + 1) cap5) (acc.length + 1) (itmsC (acc ++ [⟨pa, 2, mo, ti, da⟩])) by
                           rw [itmsC_add]
                           exact ho5)
                         have HB5 := Lib.hid (HB2.out.grown hg5 HB2.out.size fun j hj => (HO2.out.lt j hj).1)
                         have HI5 := Lib.hid (HI2.out.grown hg5 HNI.out)
                         have HK5 := Lib.hid (show Blk w5 wo.heap.size 59 #[.string pa, .int .i64 2, .int .i64 mo, .int .i64 ti, .string da] from (hg5.block wo.heap.size HK.out.lt (fun e => HNE.out _ e.symm rfl)).trans HK.out)
                         have HOB5 := Lib.hid (show ∀ i, (Value.slice (some ⟨g5, 0, none⟩) (acc.length + 1) cap5).ownBlock = some i → i = w.heap.size ∨ w1.heap.size ≤ i from fun i hi => by
                           have e : g5 = i := by simpa [Value.ownBlock] using hi
                           subst e
                           rcases hl5 with h | h
                           · exact HOB.out g5 h
                           · right; omega)
                         have hwz5 : w1.heap.size ≤ w5.heap.size := Nat.le_trans hwz2 hg5.size
                         obtain e1 : w5.cell? ⟨wo.heap.size, 1, none⟩ = some (.int .i64 2) := HK5.out.cell 1
                         obtain e4 : w5.cell? ⟨wo.heap.size, 4, none⟩ = some (.string da) := HK5.out.cell 4
                         clear ho5 hg5 hb5 hl5)
            go_wp2
            go_roundw
            case rel => exact ⟨k + 1, some ⟨g5, 0, none⟩, cap5, acc ++ [⟨pa, 2, mo, ti, da⟩], by simp, by rw [HSZ.out], by go_num, by omega, by simp; omega, Lib.hid HV.out.symm, Lib.hid (by simpa using HO5.out), HB5, HI5, Lib.hid (by simpa using HOB5.out), hwz5⟩
            case measure => simp [intOf]; omega
          · have hkq : (ki == 2) = false := by rw [beq_eq_false_iff_ne]; exact hk2
            have HSZ := Lib.hid (HSW.out.trans (if_neg hk2))
            clear hk2 HSW
            go_wp2_with (at_builtin; refine wpList_app1s rfl _ _ 49 rfl w.heap.size 59 Tryd.underlying49 infoItem rfl (by decide) _ _ _ rfl HO2.out _ (by simp) rfl rfl (by simp [Value.oneCell']) (by omega) (by omega) HB2.out.size ?_; intro g5 cap5 w5 ho5 hg5 hb5 hl5
                         have HO5 := Lib.hid (show w5.ownsRow w.heap.size 59 5 (.slice (some ⟨g5, 0, none⟩) (acc.length + 1) cap5) (acc.length + 1) (itmsC (acc ++ [⟨pa, ki, mo, ti, da⟩])) by
                           rw [itmsC_add]
                           exact ho5)
                         have HB5 := Lib.hid (HB2.out.grown hg5 HB2.out.size fun j hj => (HO2.out.lt j hj).1)
                         have HI5 := Lib.hid (HI2.out.grown hg5 HNI.out)
                         have HK5 := Lib.hid (show Blk w5 wo.heap.size 59 #[.string pa, .int .i64 ki, .int .i64 mo, .int .i64 ti, .string da] from (hg5.block wo.heap.size HK.out.lt (fun e => HNE.out _ e.symm rfl)).trans HK.out)
                         have HOB5 := Lib.hid (show ∀ i, (Value.slice (some ⟨g5, 0, none⟩) (acc.length + 1) cap5).ownBlock = some i → i = w.heap.size ∨ w1.heap.size ≤ i from fun i hi => by
                           have e : g5 = i := by simpa [Value.ownBlock] using hi
                           subst e
                           rcases hl5 with h | h
                           · exact HOB.out g5 h
                           · right; omega)
                         have hwz5 : w1.heap.size ≤ w5.heap.size := Nat.le_trans hwz2 hg5.size
                         obtain e1 : w5.cell? ⟨wo.heap.size, 1, none⟩ = some (.int .i64 ki) := HK5.out.cell 1
                         obtain e4 : w5.cell? ⟨wo.heap.size, 4, none⟩ = some (.string da) := HK5.out.cell 4
                         clear ho5 hg5 hb5 hl5)
            go_wp2
            go_roundw
            case rel => exact ⟨k + 1, some ⟨g5, 0, none⟩, cap5, acc ++ [⟨pa, ki, mo, ti, da⟩], by simp, by rw [HSZ.out], by go_num, by omega, by simp; omega, Lib.hid HV.out.symm, Lib.hid (by simpa using HO5.out), HB5, HI5, Lib.hid (by simpa using HOB5.out), hwz5⟩
            case measure => simp [intOf]; omega
      · have h0i : ¬ (0 : Int) < (pa.size : Int) := by omega
        have HV := Lib.hid (HS.out.trans (by rw [good_no h0]; simp : _ = acc))
        clear h0
        go_wp2
        go_roundw
        case rel => exact ⟨k + 1, B, d, acc, rfl, rfl, by go_num, by omega, by omega, Lib.hid HV.out.symm, HO2, HB2, HI2, HOB, hwz2⟩
        case measure => simp [intOf]; omega
    · obtain rfl : k = L.length := by omega
      have hki : ¬ (L.length : Int) < (L.length : Int) := by omega
      have HIL := Lib.hid (own_itmA HO.out rfl)
      have HLA := Lib.hid (show ∀ x ∈ acc, ItB x from fun x hx => by
        rw [HAC.out] at hx
        exact HLB.out x (List.mem_of_mem_take ((List.mem_filter.1 hx).1)))
      have hacc : acc.length ≤ 100 := by omega
      clear HAC HOB HI
      go_wp2_with fail
      refine (HAW.out _ (HE.out _ HB.out)).mono ?_
      rintro e w3 ⟨rfl, hb3⟩
      have HB3 := Lib.hid (HB.out.trans (hb3.mono HB.out.size))
      have HIL3 := Lib.hid (HIL.out.below hb3)
      clear hb3 HB HIL
      go_wp2_with fail
      refine (wsize_any B d acc w3 HIL3.out (by omega)).mono ?_
      rintro e w4 ⟨rfl, hb4⟩
      have HB4 := Lib.hid (HB3.out.trans (hb4.mono HB3.out.size))
      have HIL4 := Lib.hid (HIL3.out.below hb4)
      clear hb4 HB3 HIL3
      by_cases hs : 0 < at_.size ∧ ∃ h : 0 < at_.size, at_[0] = 47
      · obtain ⟨h0, h0', h47⟩ := hs
        have h0i : (0 : Int) < (at_.size : Int) := by omega
        have hq : (at_[0].toNat : Int) = 47 := (byte47 _).2 h47
        clear h47
        go_wp2
        go_ret
        exact ⟨rfl, HB4.out⟩
      · have HU := Lib.hid (wunder_any B d acc at_ w4 HIL4.out HLA.out (by omega))
        have hcs : ¬ 0 < at_.size ∨ ∃ h : 0 < at_.size, at_[0] ≠ 47 := by
          by_cases h0 : 0 < at_.size
          · exact .inr ⟨h0, fun e => hs ⟨h0, h0, e⟩⟩
          · exact .inl h0
        clear hs
        rcases hcs with h0 | ⟨h0, h47⟩
        · have h0i : ¬ (0 : Int) < (at_.size : Int) := by omega
          clear h0
          go_wp2_with fail
          refine HU.out.mono ?_
          rintro e w5 ⟨B5, d5, rfl, ho5, hb5⟩
          have HB5 := Lib.hid (HB4.out.trans (hb5.mono HB4.out.size))
          have HIL5 := Lib.hid (HIL4.out.below hb5)
          have HR5 := Lib.hid (own_itmA ho5 rfl)
          clear hb5 ho5 HU HIL4 HB4
          go_wp2_with fail
          refine (runder_any B d acc at_ w5 HIL5.out HLA.out (by omega) haz).mono ?_
          rintro e w6 ⟨B6, d6, rfl, ho6, hb6⟩
          have HB6 := Lib.hid (HB5.out.trans (hb6.mono HB5.out.size))
          have HR6 := Lib.hid (HR5.out.below hb6)
          have HS6 := Lib.hid (own_itmA ho6 rfl)
          have HLF := Lib.hid (show (acc.filter fun x => underI at_ x.path).length ≤ 9223372036854775807 from Nat.le_trans (List.length_filter_le _ _) (by omega))
          clear hb6 ho6 HR5 HIL5
          generalize (acc.filter fun x => underI at_ x.path) = F at *
          go_wp2_with fail
          refine (isame_any B5 B6 d5 d6 F F w6 HR6.out HS6.out HLF.out).mono ?_
          rintro e w7 ⟨rfl, hb7⟩
          have HB7 := Lib.hid (HB6.out.trans (hb7.mono HB6.out.size))
          have hdF : decide (F = F) = true := decide_eq_true rfl
          rw [hdF]
          go_wp2
          go_ret
          exact ⟨rfl, HB7.out⟩
        · have h0i : (0 : Int) < (at_.size : Int) := by omega
          have hq : ¬ (at_[0].toNat : Int) = 47 := fun e => h47 ((byte47 _).1 e)
          clear h47
          go_wp2_with fail
          refine HU.out.mono ?_
          rintro e w5 ⟨B5, d5, rfl, ho5, hb5⟩
          have HB5 := Lib.hid (HB4.out.trans (hb5.mono HB4.out.size))
          have HIL5 := Lib.hid (HIL4.out.below hb5)
          have HR5 := Lib.hid (own_itmA ho5 rfl)
          clear hb5 ho5 HU HIL4 HB4
          go_wp2_with fail
          refine (runder_any B d acc at_ w5 HIL5.out HLA.out (by omega) haz).mono ?_
          rintro e w6 ⟨B6, d6, rfl, ho6, hb6⟩
          have HB6 := Lib.hid (HB5.out.trans (hb6.mono HB5.out.size))
          have HR6 := Lib.hid (HR5.out.below hb6)
          have HS6 := Lib.hid (own_itmA ho6 rfl)
          have HLF := Lib.hid (show (acc.filter fun x => underI at_ x.path).length ≤ 9223372036854775807 from Nat.le_trans (List.length_filter_le _ _) (by omega))
          clear hb6 ho6 HR5 HIL5
          generalize (acc.filter fun x => underI at_ x.path) = F at *
          go_wp2_with fail
          refine (isame_any B5 B6 d5 d6 F F w6 HR6.out HS6.out HLF.out).mono ?_
          rintro e w7 ⟨rfl, hb7⟩
          have HB7 := Lib.hid (HB6.out.trans (hb7.mono HB6.out.size))
          have hdF : decide (F = F) = true := decide_eq_true rfl
          rw [hdF]
          go_wp2
          go_ret
          exact ⟨rfl, HB7.out⟩
theorem wunder_card (l : List Itm) (v : Value) (s : ByteArray) (w : World) (he : Env w) (hp : ItmP w v l) (hs : s.data.toList.length ≤ reachBytes) :
    Calls Tryd.prog 11 #[v, .string s] w fun e w' => e = .returned (.bool true) ∧ Below w.heap.size w w' := by
  obtain ⟨A, c, rfl, hi, hl, hb, hn, hc⟩ := hp
  have h1 : s.data.toList.length = s.size := by rw [Array.length_toList]; rfl
  have h2 := reach47 hs
  exact wunder_all A c l s w he hi hb hn hc (by omega)
end Go.Proofs.YtaoejgnfoecpfaaDoor
