/- What is in a folder, as the document says it, walked. A tree cut in two: the plain law. WalkParts: its walk. -/
import Derived.Test.YtaoejgnfoecpfaaDoorJu19
namespace Go.Proofs.YtaoejgnfoecpfaaDoor
set_option linter.unusedVariables false
set_option linter.unusedSimpArgs false
set_option linter.unusedSectionVars false
open Go.RowKit

set_option maxRecDepth 100000 in
set_option maxHeartbeats 6400000 in
theorem runder_any (A : Option Addr) (c : Nat) (l : List Itm) (at_ : ByteArray) (w : World) (hi : ItmA w A l) (hb : ∀ x ∈ l, ItB x) (hl : (l.length + 1) * 56 ≤ 140737488355328) (haz : at_.size ≤ 140737488355328) :
    Calls Tryd.prog 56 #[.slice A l.length c, .string at_] w fun e w' => ∃ B d, e = .returned (.slice B (l.filter fun x => underI at_ x.path).length d) ∧ w'.ownsRow w.heap.size 59 5 (.slice B (l.filter fun x => underI at_ x.path).length d) (l.filter fun x => underI at_ x.path).length (itmsC (l.filter fun x => underI at_ x.path)) ∧ Below w.heap.size w w' := by
  have HN := Lib.hid fun W (hb : Below w.heap.size w W) => hi.below hb
  have HIB := Lib.hid hb
  have HB0 := Lib.hid ((Below.refl w.heap.size w).alloc (Nat.le_refl _) (.cells #[] 59))
  have HO0 := Lib.hid (own_emptyI (w := w) (B := w.heap.size) (Nat.le_refl _))
  clear hi hb
  have hea : at_.toList.isEmpty = decide (at_.size = 0) := toList_isEmpty at_
  go_enter Tryd.func56, Tryd.ntmps56
  go_wp2
  go_loopw [5, 11] (fun ov iv wr => ∃ (k : Nat) (B : Option Addr) (d : Nat) (acc : List Itm), ov = .slice B acc.length d ∧ iv = .int .i64 (k : Nat) ∧ k ≤ l.length ∧ acc.length ≤ k ∧ Hid (acc = (l.take k).filter fun x => underI at_ x.path) ∧ Hid (wr.ownsRow w.heap.size 59 5 (.slice B acc.length d) acc.length (itmsC acc)) ∧ Hid (Below w.heap.size w wr)) (fun _ iv _ => l.length - (intOf iv).toNat)
  case atStart => exact ⟨0, _, 0, [], rfl, rfl, Nat.zero_le _, Nat.zero_le _, Lib.hid (by simp), HO0, HB0⟩
  case round =>
    clear HB0 HO0
    obtain ⟨k, B, d, acc, rfl, rfl, hk, hak, HAC, HO, HB⟩ := hrel
    by_cases hkl : k < l.length
    · have hki : (k : Int) < (l.length : Int) := by omega
      have hs := @filter_snoc (fun x => underI at_ x.path) l k hkl
      have hbx := HIB.out _ (List.getElem_mem hkl)
      obtain ⟨g, o, rfl, hg, hcc⟩ := HN.out wr HB.out (by omega)
      obtain ⟨q0, q1, q2, q3, q4⟩ := itm_cells hcc hkl
      clear hcc
      rw [← HAC.out] at hs
      generalize l[k] = x at *
      obtain ⟨pa, ki, mo, ti, da⟩ := x
      have hpz : pa.size ≤ 140737488355328 := hbx.path
      clear hbx
      have hba := (Below.refl wr.heap.size wr).alloc (Nat.le_refl _) (.cells #[.string pa, .int .i64 ki, .int .i64 mo, .int .i64 ti, .string da] 59)
      have HB2 := Lib.hid (HB.out.trans (hba.mono HB.out.size))
      have HK := Lib.hid (Blk.new wr 59 #[.string pa, .int .i64 ki, .int .i64 mo, .int .i64 ti, .string da])
      have HO2 := Lib.hid (own_atN HO.out fun i hi => hba.block i (HO.out.lt i hi).2)
      simp only at hs q0 q1 q2 q3 q4
      have HS := Lib.hid hs
      clear hs hba
      obtain ⟨wo, rfl⟩ : ∃ wo : World, wo = wr := ⟨_, rfl⟩
      go_upto_region 5 with fail
      generalize wo.alloc (.cells #[.string pa, .int .i64 ki, .int .i64 mo, .int .i64 ti, .string da] 59) = w1 at *
      obtain c0 : w1.cell? ⟨wo.heap.size, 0, none⟩ = some (.string pa) := HK.out.cell 0
      obtain c1 : w1.cell? ⟨wo.heap.size, 1, none⟩ = some (.int .i64 ki) := HK.out.cell 1
      obtain c2 : w1.cell? ⟨wo.heap.size, 2, none⟩ = some (.int .i64 mo) := HK.out.cell 2
      obtain c3 : w1.cell? ⟨wo.heap.size, 3, none⟩ = some (.int .i64 ti) := HK.out.cell 3
      obtain c4 : w1.cell? ⟨wo.heap.size, 4, none⟩ = some (.string da) := HK.out.cell 4
      by_cases h0 : at_.size = 0
      · rw [decide_eq_true h0] at hea
        have HV := Lib.hid (HS.out.trans (by rw [under_no at_ pa h0]; simp : _ = acc))
        clear h0
        go_wp2
        go_roundw
        case rel => exact ⟨k + 1, B, d, acc, rfl, by go_num, by omega, by omega, Lib.hid HV.out.symm, HO2, HB2⟩
        case measure => simp [intOf]; omega
      · rw [decide_eq_false h0] at hea
        by_cases hpa : pa = at_
        · have hx : (pa.toList == at_.toList) = true := by rw [txt_eqb, decide_eq_true hpa]
          have HPA := Lib.hid (show underI at_ pa = true by rw [hpa]; exact under_self h0)
          have HV := Lib.hid (HS.out.trans (by rw [HPA.out]; simp : _ = acc ++ [⟨pa, ki, mo, ti, da⟩]))
          have hl4 : (itmsC acc).length = acc.length * 5 := itmsC_len acc
          clear h0 hpa
          go_wp2_with (at_builtin; refine wpList_app1s rfl _ _ 49 rfl w.heap.size 59 Tryd.underlying49 infoItem rfl (by decide) _ _ _ rfl HO2.out _ (by simp) rfl rfl (by simp [Value.oneCell']) (by omega) (by omega) HB2.out.size ?_; intro g5 cap5 w5 ho5 hg5 hb5 hl5
                       have HO5 := Lib.hid (show w5.ownsRow w.heap.size 59 5 (.slice (some ⟨g5, 0, none⟩) (acc.length + 1) cap5) (acc.length + 1) (itmsC (acc ++ [⟨pa, ki, mo, ti, da⟩])) by
                         rw [itmsC_add]
                         exact ho5)
                       have HB5 := Lib.hid (HB2.out.grown hg5 HB2.out.size fun j hj => (HO2.out.lt j hj).1)
                       clear ho5 hg5 hb5 hl5)
          go_wp2
          go_roundw
          case rel => exact ⟨k + 1, some ⟨g5, 0, none⟩, cap5, acc ++ [⟨pa, ki, mo, ti, da⟩], by simp, by go_num, by omega, by simp; omega, Lib.hid HV.out.symm, Lib.hid (by simpa using HO5.out), HB5⟩
          case measure => simp [intOf]; omega
        · have hx : (pa.toList == at_.toList) = false := by rw [txt_eqb, decide_eq_false hpa]
          by_cases hsz : at_.size < pa.size
          · have hszi : (at_.size : Int) < (pa.size : Int) := by omega
            have h1 : (at_.size : Int) + 1 ≤ (pa.size : Int) := by omega
            have h2 : (0 : Int) ≤ (at_.size : Int) + 1 := by omega
            have h3 : ((at_.size : Int) + 1).toNat = at_.size + 1 := by omega
            have hvw := under_pre h0 hpa hsz
            rw [← txt_eqb] at hvw
            have HU := Lib.hid hvw
            clear hvw
            have HR := fun W => run_string_add_sum (P := Tryd.prog) W at_ (⟨#[47]⟩ : ByteArray) (by show at_.size + 1 ≤ _; omega)
            cases hq : ((pa.extract 0 (at_.size + 1)).toList == (at_ ++ (⟨#[47]⟩ : ByteArray)).toList) with
            | true =>
              have HV := Lib.hid (HS.out.trans (by rw [HU.out, hq]; simp : _ = acc ++ [⟨pa, ki, mo, ti, da⟩]))
              have hl4 : (itmsC acc).length = acc.length * 5 := itmsC_len acc
              clear h0 hpa hsz
              go_wp2_with (at_builtin; refine wpList_app1s rfl _ _ 49 rfl w.heap.size 59 Tryd.underlying49 infoItem rfl (by decide) _ _ _ rfl HO2.out _ (by simp) rfl rfl (by simp [Value.oneCell']) (by omega) (by omega) HB2.out.size ?_; intro g5 cap5 w5 ho5 hg5 hb5 hl5
                           have HO5 := Lib.hid (show w5.ownsRow w.heap.size 59 5 (.slice (some ⟨g5, 0, none⟩) (acc.length + 1) cap5) (acc.length + 1) (itmsC (acc ++ [⟨pa, ki, mo, ti, da⟩])) by
                             rw [itmsC_add]
                             exact ho5)
                           have HB5 := Lib.hid (HB2.out.grown hg5 HB2.out.size fun j hj => (HO2.out.lt j hj).1)
                           clear ho5 hg5 hb5 hl5)
              go_wp2
              go_roundw
              case rel => exact ⟨k + 1, some ⟨g5, 0, none⟩, cap5, acc ++ [⟨pa, ki, mo, ti, da⟩], by simp, by go_num, by omega, by simp; omega, Lib.hid HV.out.symm, Lib.hid (by simpa using HO5.out), HB5⟩
              case measure => simp [intOf]; omega
            | false =>
              have HV := Lib.hid (HS.out.trans (by rw [HU.out, hq]; simp : _ = acc))
              clear h0 hpa hsz
              go_wp2
              go_roundw
              case rel => exact ⟨k + 1, B, d, acc, rfl, by go_num, by omega, by omega, Lib.hid HV.out.symm, HO2, HB2⟩
              case measure => simp [intOf]; omega
          · have hszi : ¬ (at_.size : Int) < (pa.size : Int) := by omega
            have HV := Lib.hid (HS.out.trans (by rw [under_short h0 hpa hsz]; simp : _ = acc))
            clear h0 hpa hsz
            go_wp2
            go_roundw
            case rel => exact ⟨k + 1, B, d, acc, rfl, by go_num, by omega, by omega, Lib.hid HV.out.symm, HO2, HB2⟩
            case measure => simp [intOf]; omega
    · obtain rfl : k = l.length := by omega
      have hki : ¬ (l.length : Int) < (l.length : Int) := by omega
      have HV := Lib.hid HAC.out
      rw [List.take_length] at HV
      go_wp2
      go_ret
      rw [← HV.out]
      exact ⟨B, d, rfl, HO.out, HB.out⟩
end Go.Proofs.YtaoejgnfoecpfaaDoor
namespace Go.Proofs.YtaoejgnfoecpfaaDoor
set_option linter.unusedVariables false
set_option linter.unusedSimpArgs false
set_option linter.unusedSectionVars false
open Go.RowKit

/-- is it one of these? -/
def anyI (F : List Itm) (x : Itm) : Bool := F.any fun y => eqI x y
theorem any_snoc {F : List Itm} {j : Nat} (h : j < F.length) (x : Itm) : anyI (F.take (j + 1)) x = (anyI (F.take j) x || eqI x F[j]) := by
  unfold anyI
  rw [List.take_succ_eq_append_getElem h, List.any_append]
  simp
theorem any_in {a : ByteArray} {L : List Itm} {x : Itm} (hx : x ∈ L) : anyI (L.filter fun y => underI a y.path) x = underI a x.path := by
  unfold anyI eqI
  rw [Bool.eq_iff_iff, List.any_eq_true]
  constructor
  · rintro ⟨y, hy, he⟩
    rw [decide_eq_true_eq] at he
    subst he
    exact (List.mem_filter.1 hy).2
  · intro h
    exact ⟨x, List.mem_filter.2 ⟨hx, h⟩, decide_eq_true rfl⟩
theorem out_is (a : ByteArray) (L : List Itm) : (L.filter fun x => !anyI (L.filter fun y => underI a y.path) x) = L.filter fun x => !underI a x.path :=
  List.filter_congr fun x hx => by rw [any_in hx]
theorem len_split (p : Itm → Bool) : ∀ l : List Itm, (l.filter p).length + (l.filter fun x => !p x).length = l.length
  | [] => rfl
  | x :: r => by
    have := len_split p r
    cases h : p x <;> simp [h] <;> omega
theorem under_parent {a p : ByteArray} (h0 : p.size ≠ 0) (h : underI a (parentP p) = true) : underI a p = true := by
  by_cases hp : p = a
  · rw [← hp]
    exact under_self h0
  · rw [under_up h0 hp]
    exact h
/-- what is left when a folder is taken out of a tree is a tree -/
theorem tree_rest {L : List Itm} (h : TreeOk L) (a : ByteArray) : TreeOk (L.filter fun x => !underI a x.path) := by
  refine ⟨Nat.le_trans (List.length_filter_le _ _) h.len, fun x hx => h.fit x (List.mem_filter.1 hx).1, List.Pairwise.sublist List.filter_sublist h.apart, fun x hx => ?_⟩
  obtain ⟨hxl, hxu⟩ := List.mem_filter.1 hx
  rcases h.there x hxl with h1 | ⟨y, hy, hk, hp⟩
  · exact .inl h1
  · by_cases h0 : x.path.size = 0
    · left
      unfold parentP
      rw [ByteArray.size_extract]
      omega
    · refine .inr ⟨y, List.mem_filter.2 ⟨hy, ?_⟩, hk, hp⟩
      cases hu : underI a y.path with
      | false => rfl
      | true =>
        rw [hp] at hu
        rw [under_parent h0 hu] at hxu
        cases hxu
def sumI : List Itm → Nat
  | [] => 0
  | x :: r => (if x.kind = 2 then x.data.size else 0) + sumI r
theorem sumI_app : ∀ a b : List Itm, sumI (a ++ b) = sumI a + sumI b
  | [], b => by simp [sumI]
  | x :: r, b => by
    rw [List.cons_append]
    show (if x.kind = 2 then x.data.size else 0) + sumI (r ++ b) = ((if x.kind = 2 then x.data.size else 0) + sumI r) + sumI b
    rw [sumI_app r b]
    omega
theorem sumI_le : ∀ l : List Itm, (∀ x ∈ l, x.data.size ≤ 32768) → sumI l ≤ l.length * 32768
  | [], _ => Nat.le_refl _
  | x :: r, h => by
    have h1 := sumI_le r fun y hy => h y (by simp [hy])
    have h2 := h x (by simp)
    show (if x.kind = 2 then x.data.size else 0) + sumI r ≤ _
    rw [List.length_cons]
    split <;> omega
theorem size_sum (l : List Itm) : (∀ x ∈ l, x.data.size ≤ 32768) → l.length ≤ 1000 → sizeW l = (sumI l : Int) := by
  refine snoc_rec (p := fun l => (∀ x ∈ l, x.data.size ≤ 32768) → l.length ≤ 1000 → sizeW l = (sumI l : Int)) (fun _ _ => rfl) (fun l x ih h hl => ?_) l
  rw [List.length_append, List.length_singleton] at hl
  have hi := ih (fun y hy => h y (by simp [hy])) (by omega)
  have hb := sumI_le l fun y hy => h y (by simp [hy])
  have hx := h x (by simp)
  rw [sizeW_snoc, hi, sumI_app]
  simp only [sumI, Nat.add_zero]
  split
  · rw [IntWalk.i64_in _ (by omega)]
    omega
  · omega
theorem sum_split (p : Itm → Bool) : ∀ l : List Itm, sumI (l.filter p) + sumI (l.filter fun x => !p x) = sumI l
  | [] => rfl
  | x :: r => by
    have := sum_split p r
    cases h : p x
    · simp only [List.filter_cons, h, Bool.false_eq_true, if_false, Bool.not_false, if_true, sumI]
      omega
    · simp only [List.filter_cons, h, if_true, Bool.not_true, Bool.false_eq_true, if_false, sumI]
      omega
theorem fit_data {x : Itm} (h : fitI x = 0) : x.data.size ≤ 32768 := by
  unfold fitI at h
  split at h
  · cases h
  split at h
  · cases h
  split at h
  · cases h
  split at h
  · cases h
  · omega
theorem filt_again (p : Itm → Bool) (l : List Itm) : (l.filter p).filter p = l.filter p := by
  rw [List.filter_filter]
  exact List.filter_congr fun x _ => by simp
theorem filt_none (p : Itm → Bool) (l : List Itm) : (l.filter fun x => !p x).filter p = [] := by
  rw [List.filter_filter, List.filter_eq_nil_iff]
  intro x _
  cases h : p x <;> simp
end Go.Proofs.YtaoejgnfoecpfaaDoor
namespace Go.Proofs.YtaoejgnfoecpfaaDoor
set_option linter.unusedVariables false
set_option linter.unusedSimpArgs false
set_option linter.unusedSectionVars false
open Go.RowKit

set_option maxRecDepth 100000 in
set_option maxHeartbeats 12800000 in
theorem wparts_all (A : Option Addr) (c : Nat) (l : List Itm) (at_ : ByteArray) (w : World) (he : Env w) (hi : ItmA w A l) (hb : ∀ x ∈ l, ItB x) (hn : A = none → c = 0) (hc : l.length ≤ c) :
    Calls Tryd.prog 12 #[.slice A l.length c, .string at_] w fun e w' => e = .returned (.bool true) ∧ Below w.heap.size w w' := by
  have HE := Lib.hid fun W (hb : Below w.heap.size w W) => he.below hb
  have HAW := Lib.hid fun W (h : Env W) => awake13_any W h
  have HF := Lib.hid (ifew_any A c l 100 w hi hn hc (by decide))
  have HLB := Lib.hid (show ∀ x ∈ l.take 100, ItB x from fun x hx => hb x (List.mem_of_mem_take hx))
  have hl100 : (l.take 100).length ≤ 100 := by rw [List.length_take]; omega
  clear he hi hb hn hc
  generalize l.take 100 = L at *
  go_enter Tryd.func12, Tryd.ntmps12
  go_wp2_with fail
  refine HF.out.mono ?_
  rintro e w1 ⟨A1, c1, rfl, ho1, hn1, hb1⟩
  have HB1 := Lib.hid hb1
  have HI1 := Lib.hid (own_itmA ho1 rfl)
  clear HF ho1 hb1
  go_wp2_with fail
  refine (wcheck_any A1 c1 L w1 (HE.out _ HB1.out) HI1.out HLB.out (by omega)).mono ?_
  rintro e w2 ⟨n, rfl, hch, hb2⟩
  have HB2 := Lib.hid (HB1.out.trans (hb2.mono HB1.out.size))
  have HI2 := Lib.hid (HI1.out.below hb2)
  have HCH := Lib.hid (chk_zero hch)
  clear hb2 hch HI1 HB1
  by_cases hn0 : n = 0
  rotate_left
  · have hnz : ((n : Int) != 0) = true := by
      have : ¬ (n : Int) = 0 := by omega
      simpa using this
    have hnz2 : ¬ (n : Int) = 0 := by omega
    clear hn0
    go_wp2_with fail
    refine (HAW.out _ (HE.out _ HB2.out)).mono ?_
    rintro e w3 ⟨rfl, hb3⟩
    have HB3 := Lib.hid (HB2.out.trans (hb3.mono HB2.out.size))
    go_wp2
    go_ret
    exact ⟨rfl, HB3.out⟩
  subst hn0
  have HT := Lib.hid (HCH.out.1 rfl)
  clear HCH
  go_wp2_with fail
  refine (wunder_any A1 c1 L at_ w2 HI2.out HLB.out (by omega)).mono ?_
  rintro e w3 ⟨A3, c3, rfl, ho3, hb3⟩
  have HB3 := Lib.hid (HB2.out.trans (hb3.mono HB2.out.size))
  have HI3 := Lib.hid (HI2.out.below hb3)
  have HF3 := Lib.hid (own_itmA ho3 rfl)
  have HOI := Lib.hid (out_is at_ L)
  have HFL := Lib.hid (List.length_filter_le (fun x => underI at_ x.path) L)
  have HFM := Lib.hid (show ∀ x ∈ L.filter (fun x => underI at_ x.path), x ∈ L from fun x hx => (List.mem_filter.1 hx).1)
  have HTR := Lib.hid (tree_rest HT.out at_)
  have HLS := Lib.hid (len_split (fun x => underI at_ x.path) L)
  have HSS := Lib.hid (sum_split (fun x => underI at_ x.path) L)
  have HFA := Lib.hid (filt_again (fun x => underI at_ x.path) L)
  have HFN := Lib.hid (filt_none (fun x => underI at_ x.path) L)
  clear hb3 ho3 HB2 HI2
  generalize hFd : (L.filter fun x => underI at_ x.path) = F at *
  clear hFd
  have hfl : F.length ≤ 100 := by have := HFL.out; omega
  have HB4 := Lib.hid ((Below.refl w3.heap.size w3).alloc (Nat.le_refl _) (.cells #[] 59))
  have HO4 := Lib.hid (own_emptyI (w := w3) (B := w3.heap.size) (Nat.le_refl _))
  go_wp2
  go_loopw [7, 26] (fun ov iv wr => ∃ (k : Nat) (B : Option Addr) (d : Nat) (acc : List Itm), ov = .slice B acc.length d ∧ iv = .int .i64 (k : Nat) ∧ k ≤ L.length ∧ acc.length ≤ k ∧ Hid (acc = (L.take k).filter fun x => !anyI F x) ∧ Hid (wr.ownsRow w3.heap.size 59 5 (.slice B acc.length d) acc.length (itmsC acc)) ∧ Hid (Below w3.heap.size w3 wr)) (fun _ iv _ => L.length - (intOf iv).toNat)
  case atStart => exact ⟨0, _, 0, [], rfl, rfl, Nat.zero_le _, Nat.zero_le _, Lib.hid (by simp), HO4, HB4⟩
  case round =>
    clear HB4 HO4
    obtain ⟨k, B, d, acc, rfl, rfl, hk, hak, HAC, HO, HB⟩ := hrel
    by_cases hkl : k < L.length
    · have hki : (k : Int) < (L.length : Int) := by omega
      have hs := @filter_snoc (fun x => !anyI F x) L k hkl
      obtain ⟨g, o, e1, hg, hcc⟩ := HI3.out.below HB.out (by omega)
      subst e1
      obtain ⟨q0, q1, q2, q3, q4⟩ := itm_cells hcc hkl
      clear hcc
      rw [← HAC.out] at hs
      generalize L[k] = x at *
      obtain ⟨pa, ki, mo, ti, da⟩ := x
      have hba := (Below.refl wr.heap.size wr).alloc (Nat.le_refl _) (.cells #[.string pa, .int .i64 ki, .int .i64 mo, .int .i64 ti, .string da] 59)
      have HB5 := Lib.hid (HB.out.trans (hba.mono HB.out.size))
      have HK := Lib.hid (Blk.new wr 59 #[.string pa, .int .i64 ki, .int .i64 mo, .int .i64 ti, .string da])
      have HO5 := Lib.hid (own_atN HO.out fun i hi => hba.block i (HO.out.lt i hi).2)
      simp only at hs q0 q1 q2 q3 q4
      have HS := Lib.hid hs
      clear hs hba
      obtain ⟨wo, rfl⟩ : ∃ wo : World, wo = wr := ⟨_, rfl⟩
      go_wp2
      generalize wo.alloc (.cells #[.string pa, .int .i64 ki, .int .i64 mo, .int .i64 ti, .string da] 59) = w5 at *
      go_loopw [10, 32] (fun fv jv wr => ∃ j : Nat, fv = .bool (anyI (F.take j) ⟨pa, ki, mo, ti, da⟩) ∧ jv = .int .i64 (j : Nat) ∧ j ≤ F.length ∧ Hid (Below w5.heap.size w5 wr)) (fun _ jv _ => F.length - (intOf jv).toNat)
      case atStart => exact ⟨0, rfl, rfl, Nat.zero_le _, Lib.hid (Below.refl _ _)⟩
      case round =>
        obtain ⟨j, rfl, rfl, hj, HBI⟩ := hrel
        by_cases hjl : j < F.length
        · have hji : (j : Int) < (F.length : Int) := by omega
          have hs := any_snoc hjl ⟨pa, ki, mo, ti, da⟩
          obtain ⟨g', o', e1, hg', hcc⟩ := HF3.out.below (HB5.out.trans (HBI.out.mono HB5.out.size)) (by omega)
          subst e1
          obtain ⟨p0, p1, p2, p3, p4⟩ := itm_cells hcc hjl
          clear hcc
          generalize F[j] = y at *
          obtain ⟨ya, yb, yc, yd, ye⟩ := y
          simp only at p0 p1 p2 p3 p4
          have HAS := Lib.hid hs
          clear hs
          generalize anyI (F.take j) ⟨pa, ki, mo, ti, da⟩ = fb at *
          have hKx := HK.out.below HBI.out HK.out.lt
          have hbx := (Below.refl wr.heap.size wr).alloc (Nat.le_refl _) (.cells #[.string ya, .int .i64 yb, .int .i64 yc, .int .i64 yd, .string ye] 59)
          have HKX := Lib.hid (hKx.below hbx hKx.lt)
          have HKY := Lib.hid (Blk.new wr 59 #[.string ya, .int .i64 yb, .int .i64 yc, .int .i64 yd, .string ye])
          have HBJ := Lib.hid (HBI.out.trans (hbx.mono HBI.out.size))
          clear hKx hbx
          obtain ⟨wi, rfl⟩ : ∃ wi : World, wi = wr := ⟨_, rfl⟩
          go_upto_region 13 with fail
          generalize wi.alloc (.cells #[.string ya, .int .i64 yb, .int .i64 yc, .int .i64 yd, .string ye] 59) = w6 at *
          have r0 : w6.cell? ⟨wo.heap.size, 0, none⟩ = some (.string pa) := HKX.out.cell 0
          have r1 : w6.cell? ⟨wo.heap.size, 1, none⟩ = some (.int .i64 ki) := HKX.out.cell 1
          have r2 : w6.cell? ⟨wo.heap.size, 2, none⟩ = some (.int .i64 mo) := HKX.out.cell 2
          have r3 : w6.cell? ⟨wo.heap.size, 3, none⟩ = some (.int .i64 ti) := HKX.out.cell 3
          have r4 : w6.cell? ⟨wo.heap.size, 4, none⟩ = some (.string da) := HKX.out.cell 4
          have s0 : w6.cell? ⟨wi.heap.size, 0, none⟩ = some (.string ya) := HKY.out.cell 0
          have s1 : w6.cell? ⟨wi.heap.size, 1, none⟩ = some (.int .i64 yb) := HKY.out.cell 1
          have s2 : w6.cell? ⟨wi.heap.size, 2, none⟩ = some (.int .i64 yc) := HKY.out.cell 2
          have s3 : w6.cell? ⟨wi.heap.size, 3, none⟩ = some (.int .i64 yd) := HKY.out.cell 3
          have s4 : w6.cell? ⟨wi.heap.size, 4, none⟩ = some (.string ye) := HKY.out.cell 4
          cases fb with
          | true =>
            have HR := Lib.hid (HAS.out.trans (Bool.true_or _))
            clear HAS
            go_wp2
            go_roundw
            case rel => exact ⟨j + 1, by rw [HR.out], by go_num, by omega, HBJ⟩
            case measure => simp [intOf]; omega
          | false =>
            have HR := Lib.hid (HAS.out.trans (Bool.false_or _))
            clear HAS
            cases hq : eqI ⟨pa, ki, mo, ti, da⟩ ⟨ya, yb, yc, yd, ye⟩
            all_goals
              rw [hq] at HR
              go_wp2
              go_roundw
              case rel => exact ⟨j + 1, by rw [HR.out], by go_num, by omega, HBJ⟩
              case measure => simp [intOf]; omega
        · obtain rfl : j = F.length := by omega
          have hji : ¬ (F.length : Int) < (F.length : Int) := by omega
          rw [List.take_length]
          have HB6 := Lib.hid (HB5.out.trans (HBI.out.mono HB5.out.size))
          have HO6 := Lib.hid (own_atN HO5.out fun i hi => HBI.out.block i (HO5.out.lt i hi).2)
          have HK6 := Lib.hid (HK.out.below HBI.out HK.out.lt)
          cases hf : anyI F ⟨pa, ki, mo, ti, da⟩ with
          | true =>
            have HV := Lib.hid (HS.out.trans (by rw [hf]; simp : _ = acc))
            go_wp2
            go_roundw
            case rel => exact ⟨k + 1, B, d, acc, rfl, by go_num, by omega, by omega, Lib.hid HV.out.symm, HO6, HB6⟩
            case measure => simp [intOf]; omega
          | false =>
            have HV := Lib.hid (HS.out.trans (by rw [hf]; simp : _ = acc ++ [⟨pa, ki, mo, ti, da⟩]))
            obtain z0 : wr.cell? ⟨wo.heap.size, 0, none⟩ = some (.string pa) := HK6.out.cell 0
            obtain z1 : wr.cell? ⟨wo.heap.size, 1, none⟩ = some (.int .i64 ki) := HK6.out.cell 1
            obtain z2 : wr.cell? ⟨wo.heap.size, 2, none⟩ = some (.int .i64 mo) := HK6.out.cell 2
            obtain z3 : wr.cell? ⟨wo.heap.size, 3, none⟩ = some (.int .i64 ti) := HK6.out.cell 3
            obtain z4 : wr.cell? ⟨wo.heap.size, 4, none⟩ = some (.string da) := HK6.out.cell 4
            have hl4 : (itmsC acc).length = acc.length * 5 := itmsC_len acc
            go_wp2_with (at_builtin; refine wpList_app1s rfl _ _ 49 rfl w3.heap.size 59 Tryd.underlying49 infoItem rfl (by decide) _ _ _ rfl HO6.out _ (by simp) rfl rfl (by simp [Value.oneCell']) (by omega) (by omega) HB6.out.size ?_; intro g5 cap5 w7 ho5 hg5 hb5 hl5
                         have HO7 := Lib.hid (show w7.ownsRow w3.heap.size 59 5 (.slice (some ⟨g5, 0, none⟩) (acc.length + 1) cap5) (acc.length + 1) (itmsC (acc ++ [⟨pa, ki, mo, ti, da⟩])) by
                           rw [itmsC_add]
                           exact ho5)
                         have HB7 := Lib.hid (HB6.out.grown hg5 HB6.out.size fun j hj => (HO6.out.lt j hj).1)
                         clear ho5 hg5 hb5 hl5)
            go_wp2
            go_roundw
            case rel => exact ⟨k + 1, some ⟨g5, 0, none⟩, cap5, acc ++ [⟨pa, ki, mo, ti, da⟩], by simp, by go_num, by omega, by simp; omega, Lib.hid HV.out.symm, Lib.hid (by simpa using HO7.out), HB7⟩
            case measure => simp [intOf]; omega
    · obtain rfl : k = L.length := by omega
      have hki : ¬ (L.length : Int) < (L.length : Int) := by omega
      have hO := HAC.out
      rw [List.take_length, HOI.out] at hO
      rw [← hO] at HTR HLS HSS HFN
      have HIO := Lib.hid (own_itmA HO.out rfl)
      have HIF := Lib.hid (HF3.out.below HB.out)
      have HIL := Lib.hid (HI3.out.below HB.out)
      have HBW := Lib.hid (HB3.out.trans (HB.out.mono HB3.out.size))
      have hlen : (F.length : Int) + (acc.length : Int) = (L.length : Int) := by have := HLS.out; omega
      have HMO := Lib.hid (show ∀ x ∈ acc, x ∈ L from fun x hx => by rw [hO] at hx; exact (List.mem_filter.1 hx).1)
      have HSL := Lib.hid (size_sum L (fun x hx => fit_data (HT.out.fit x hx)) (by omega))
      have HSF := Lib.hid (size_sum F (fun x hx => fit_data (HT.out.fit x (HFM.out x hx))) (by omega))
      have HSO := Lib.hid (size_sum acc (fun x hx => fit_data (HT.out.fit x (HMO.out x hx))) (by omega))
      have HSB := Lib.hid (sumI_le L (fun x hx => fit_data (HT.out.fit x hx)))
      clear hO HAC HOI HO HF3 HI3 HB HB3
      have hal : acc.length ≤ 100 := by omega
      have hq : ((F.length : Int) + (acc.length : Int) != (L.length : Int)) = false := by rw [hlen]; simp
      generalize hLL : L.length = nL at *
      go_wp2_with fail
      refine (wcheck_any B d acc wr (HE.out _ HBW.out) HIO.out (fun x hx => HLB.out x (HMO.out x hx)) (by omega)).mono ?_
      rintro e w8 ⟨n8, rfl, hch8, hb8⟩
      obtain rfl : n8 = 0 := (chk_zero hch8).2 HTR.out
      have HB8 := Lib.hid (HBW.out.trans (hb8.mono HBW.out.size))
      have HIO8 := Lib.hid (HIO.out.below hb8)
      have HIF8 := Lib.hid (HIF.out.below hb8)
      have HIL8 := Lib.hid (HIL.out.below hb8)
      clear hch8 hb8 HIO HIF HIL HBW
      go_wp2_with fail
      refine (wsize_any A3 c3 F w8 HIF8.out (by omega)).mono ?_
      rintro e w9 ⟨rfl, hb9⟩
      have HB9 := Lib.hid (HB8.out.trans (hb9.mono HB8.out.size))
      have HIO9 := Lib.hid (HIO8.out.below hb9)
      have HIF9 := Lib.hid (HIF8.out.below hb9)
      have HIL9 := Lib.hid (HIL8.out.below hb9)
      clear hb9 HIO8 HIF8 HIL8 HB8
      rw [HSF.out]
      go_wp2_with fail
      refine (wsize_any B d acc w9 HIO9.out (by omega)).mono ?_
      rintro e w10 ⟨rfl, hb10⟩
      have HB10 := Lib.hid (HB9.out.trans (hb10.mono HB9.out.size))
      have HIO10 := Lib.hid (HIO9.out.below hb10)
      have HIF10 := Lib.hid (HIF9.out.below hb10)
      have HIL10 := Lib.hid (HIL9.out.below hb10)
      clear hb10 HIO9 HIF9 HIL9 HB9
      rw [HSO.out]
      have hsum : (sumI F : Int) + (sumI acc : Int) = (sumI L : Int) := by have := HSS.out; omega
      have hsb : sumI L ≤ 100 * 32768 := by have := HSB.out; omega
      have hq2 : ((sumI F : Int) + (sumI acc : Int) != (sumI L : Int)) = false := by rw [hsum]; simp
      go_wp2_with fail
      subst hLL
      refine (wsize_any A1 c1 L w10 HIL10.out (by omega)).mono ?_
      rintro e w11 ⟨rfl, hb11⟩
      have HB11 := Lib.hid (HB10.out.trans (hb11.mono HB10.out.size))
      have HIO11 := Lib.hid (HIO10.out.below hb11)
      have HIF11 := Lib.hid (HIF10.out.below hb11)
      clear hb11 HIO10 HIF10 HIL10 HB10
      rw [HSL.out]
      go_wp2_with fail
      have hU := wunder_any A3 c3 F at_ w11 HIF11.out (fun x hx => HLB.out x (HFM.out x hx)) (by omega)
      rw [HFA.out] at hU
      refine hU.mono ?_
      rintro e w12 ⟨A12, c12, rfl, ho12, hb12⟩
      have HB12 := Lib.hid (HB11.out.trans (hb12.mono HB11.out.size))
      have HIO12 := Lib.hid (HIO11.out.below hb12)
      have HIF12 := Lib.hid (HIF11.out.below hb12)
      have HR12 := Lib.hid (own_itmA ho12 rfl)
      clear hb12 ho12 hU HIO11 HIF11 HB11
      go_wp2_with fail
      refine (HAW.out _ (HE.out _ HB12.out)).mono ?_
      rintro e w13 ⟨rfl, hb13⟩
      have HB13 := Lib.hid (HB12.out.trans (hb13.mono HB12.out.size))
      have HIO13 := Lib.hid (HIO12.out.below hb13)
      have HIF13 := Lib.hid (HIF12.out.below hb13)
      have HR13 := Lib.hid (HR12.out.below hb13)
      clear hb13 HIO12 HIF12 HR12 HB12
      go_wp2_with fail
      refine (isame_any A12 A3 c12 c3 F F w13 HR13.out HIF13.out (by omega)).mono ?_
      rintro e w14 ⟨rfl, hb14⟩
      have HB14 := Lib.hid (HB13.out.trans (hb14.mono HB13.out.size))
      have HIO14 := Lib.hid (HIO13.out.below hb14)
      clear hb14 HIO13 HIF13 HR13 HB13
      have hdF : decide (F = F) = true := decide_eq_true rfl
      rw [hdF]
      have hV := wunder_any B d acc at_ w14 HIO14.out (fun x hx => HLB.out x (HMO.out x hx)) (by omega)
      rw [HFN.out] at hV
      go_wp2_with fail
      refine hV.mono ?_
      rintro e w15 ⟨A15, c15, rfl, ho15, hb15⟩
      have HB15 := Lib.hid (HB14.out.trans (hb15.mono HB14.out.size))
      go_wp2
      go_ret
      exact ⟨rfl, HB15.out⟩
theorem wparts_card (l : List Itm) (v : Value) (s : ByteArray) (w : World) (he : Env w) (hp : ItmP w v l) :
    Calls Tryd.prog 12 #[v, .string s] w fun e w' => e = .returned (.bool true) ∧ Below w.heap.size w w' := by
  obtain ⟨A, c, rfl, hi, hl, hb, hn, hc⟩ := hp
  exact wparts_all A c l s w he hi hb hn hc
end Go.Proofs.YtaoejgnfoecpfaaDoor
