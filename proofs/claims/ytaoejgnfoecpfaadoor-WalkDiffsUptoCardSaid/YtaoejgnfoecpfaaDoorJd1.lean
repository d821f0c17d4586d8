/- The document's form of an item. The document's order, check and difference of items: the plain law. The document's order of items, walked. The document's check of a tree, walked. The document's search for a path, walked. The document's difference of two trees, walked. walk.Diff of what is no tree. Rows of items that came in as arguments of bounded bulk. WalkDiffs: its walk. -/
import Derived.Test.YtaoejgnfoecpfaaDoorJt21
import Derived.Test.YtaoejgnfoecpfaaDoorJt16
import Derived.Test.YtaoejgnfoecpfaaDoorJt23
import Derived.Test.YtaoejgnfoecpfaaDoorJt22
namespace Go.Proofs.YtaoejgnfoecpfaaDoor
set_option linter.unusedVariables false
set_option linter.unusedSimpArgs false
set_option linter.unusedSectionVars false
open Go.RowKit

set_option maxRecDepth 100000 in
set_option maxHeartbeats 3200000 in
theorem rfit13_any (x : Itm) (w : World) (hb : ItB x) (hpz : x.path.size ≤ 1100000) :
    Calls Tryd.prog 91 #[.agg #[.string x.path, .int .i64 x.kind, .int .i64 x.mode, .int .i64 x.time, .string x.data]] w fun e w' => e = .returned (.int .i64 (fitI x)) ∧ Below w.heap.size w w' := by
  have HF := Lib.hid (show fitI x = if x.kind < 1 ∨ 3 < x.kind then 12 else if isPath x.path = false then 11 else if formI x = false then 4 else if 32768 < x.data.size then 2 else 0 from rfl)
  have hb0 := (Below.refl w.heap.size w).alloc (Nat.le_refl _) (.cells #[.string x.path, .int .i64 x.kind, .int .i64 x.mode, .int .i64 x.time, .string x.data] 59)
  have HB0 := Lib.hid hb0
  have HK0 := Lib.hid (Blk.new w 59 #[.string x.path, .int .i64 x.kind, .int .i64 x.mode, .int .i64 x.time, .string x.data])
  have HIS := Lib.hid fun W => refis_big x.path W hpz
  have HTG := Lib.hid fun W => rtarget_any x.data W hb.data
  have FC := Lib.hid (form_cases x)
  have hem : x.data.toList.isEmpty = decide (x.data.size = 0) := toList_isEmpty x.data
  have hdz := hb.data
  generalize fitI x = fv at *
  generalize formI x = fo at *
  clear hb hb0 hpz
  obtain ⟨pa, ki, mo, ti, da⟩ := x
  simp only at HF HB0 HK0 HIS HTG FC hem hdz ⊢
  by_cases hk : ki < 1 ∨ 3 < ki
  · have HV := Lib.hid (show fv = 12 by rw [HF.out, if_pos hk])
    rcases (by omega : ki < 1 ∨ (¬ ki < 1 ∧ 3 < ki)) with q1 | ⟨q1, q2⟩
    all_goals
      clear hk
      go_enter Tryd.func91, Tryd.ntmps91
      go_wp2
      go_ret
      exact ⟨ret_int (by rw [HV.out]; rfl), HB0.out⟩
  · have hk1 : ¬ ki < 1 := by omega
    have hk2 : ¬ 3 < ki := by omega
    have HF2 := Lib.hid (HF.out.trans (if_neg hk))
    clear HF
    generalize isPath pa = ip at *
    generalize tgt da = tg at *
    go_enter Tryd.func91, Tryd.ntmps91
    go_wp2_with fail
    refine (HIS.out _).mono ?_
    rintro e w2 ⟨rfl, hb2⟩
    have HB2 := Lib.hid (HB0.out.trans (hb2.mono HB0.out.size))
    have HK2 := Lib.hid (HK0.out.below hb2 (by simp))
    clear hb2
    have c1 : w2.cell? ⟨w.heap.size, 1, none⟩ = some (.int .i64 ki) := HK2.out.cell 1
    have c2 : w2.cell? ⟨w.heap.size, 2, none⟩ = some (.int .i64 mo) := HK2.out.cell 2
    have c3 : w2.cell? ⟨w.heap.size, 3, none⟩ = some (.int .i64 ti) := HK2.out.cell 3
    have c4 : w2.cell? ⟨w.heap.size, 4, none⟩ = some (.string da) := HK2.out.cell 4
    cases ip with
    | false =>
      have HV := Lib.hid (show fv = 11 by rw [HF2.out]; rfl)
      go_wp2
      go_ret
      exact ⟨ret_int (by rw [HV.out]; rfl), HB2.out⟩
    | true =>
      have HF3 := Lib.hid (HF2.out.trans (if_neg (by simp)))
      clear HF2
      rcases FC.out with ⟨hf, hq⟩ | ⟨⟨q1, q2, q3, q4⟩, hf⟩
      · have HV := Lib.hid (show fv = 4 by rw [HF3.out, if_pos hf])
        clear hf FC HF3
        rcases hq with q1 | ⟨q1, q2⟩ | ⟨q1, q2, q3⟩ | ⟨q1, q2, q3, q4⟩
        all_goals
          go_wp2
          go_ret
          exact ⟨ret_int (by rw [HV.out]; rfl), HB2.out⟩
      · have HFO := Lib.hid hf
        clear hf FC
        rcases (by omega : ki = 1 ∨ ki = 2 ∨ ki = 3) with hk3 | hk3 | hk3
        · subst hk3
          by_cases hd : da.size = 0
          · have hd1 := decide_eq_true hd
            rw [hd1] at hem
            have HV := Lib.hid (show fv = 0 by
              rw [HF3.out, if_neg ?_, if_neg (by omega)]
              rw [HFO.out, hd1]
              simp)
            have hle : ¬ (32768 : Int) < (da.size : Int) := by omega
            clear hd hd1 HFO HF3
            go_wp2
            go_ret
            exact ⟨ret_int (by rw [HV.out]; rfl), HB2.out⟩
          · have hd1 := decide_eq_false hd
            rw [hd1] at hem
            have HV := Lib.hid (show fv = 4 by
              rw [HF3.out, if_pos ?_]
              rw [HFO.out, hd1]
              simp)
            clear hd hd1 HFO HF3
            go_wp2
            go_ret
            exact ⟨ret_int (by rw [HV.out]; rfl), HB2.out⟩
        · subst hk3
          have hfo : fo = true := by rw [HFO.out]; simp
          by_cases hz : 32768 < da.size
          · have hz1 : (32768 : Int) < (da.size : Int) := by omega
            have HV := Lib.hid (show fv = 2 by rw [HF3.out, if_neg (by rw [hfo]; simp), if_pos hz])
            clear hz hfo HFO HF3
            go_wp2
            go_ret
            exact ⟨ret_int (by rw [HV.out]; rfl), HB2.out⟩
          · have hz1 : ¬ (32768 : Int) < (da.size : Int) := by omega
            have HV := Lib.hid (show fv = 0 by rw [HF3.out, if_neg (by rw [hfo]; simp), if_neg hz])
            clear hz hfo HFO HF3
            go_wp2
            go_ret
            exact ⟨ret_int (by rw [HV.out]; rfl), HB2.out⟩
        · subst hk3
          have HFO2 := Lib.hid (show fo = tg by rw [HFO.out]; simp)
          clear HFO
          go_wp2_with fail
          refine (HTG.out _).mono ?_
          rintro e w3 ⟨rfl, rfl⟩
          cases tg with
          | false =>
            have HV := Lib.hid (show fv = 4 by rw [HF3.out, if_pos HFO2.out])
            clear HFO2 HF3
            go_wp2
            go_ret
            exact ⟨ret_int (by rw [HV.out]; rfl), HB2.out⟩
          | true =>
            by_cases hz : 32768 < da.size
            · have hz1 : (32768 : Int) < (da.size : Int) := by omega
              have HV := Lib.hid (show fv = 2 by rw [HF3.out, if_neg (by rw [HFO2.out]; simp), if_pos hz])
              clear hz HFO2 HF3
              go_wp2
              go_ret
              exact ⟨ret_int (by rw [HV.out]; rfl), HB2.out⟩
            · have hz1 : ¬ (32768 : Int) < (da.size : Int) := by omega
              have HV := Lib.hid (show fv = 0 by rw [HF3.out, if_neg (by rw [HFO2.out]; simp), if_neg hz])
              clear hz HFO2 HF3
              go_wp2
              go_ret
              exact ⟨ret_int (by rw [HV.out]; rfl), HB2.out⟩
end Go.Proofs.YtaoejgnfoecpfaaDoor
namespace Go.Proofs.YtaoejgnfoecpfaaDoor
set_option linter.unusedVariables false
set_option linter.unusedSimpArgs false
set_option linter.unusedSectionVars false
open Go.RowKit

/-- ahead of the first one that is greater -/
def insI (x : Itm) : List Itm → List Itm
  | [] => [x]
  | y :: r => if cmpL (partsP y.path) (partsP x.path) = 1 then x :: y :: r else y :: insI x r
def sortR (l : List Itm) : List Itm := l.foldl (fun out x => insI x out) []
theorem insI_perm (x : Itm) : ∀ l : List Itm, (insI x l).Perm (x :: l)
  | [] => List.Perm.refl _
  | y :: r => by
    unfold insI
    split
    · exact List.Perm.refl _
    · exact ((insI_perm x r).cons y).trans (List.Perm.swap x y r)
theorem insI_len (x : Itm) (l : List Itm) : (insI x l).length = l.length + 1 := by
  rw [(insI_perm x l).length_eq]; rfl
theorem insI_sorted (x : Itm) : ∀ l : List Itm, SortedI l → SortedI (insI x l)
  | [], _ => List.pairwise_singleton _ _
  | y :: r, h => by
    have h1 := (List.pairwise_cons.1 h).1
    have h2 := (List.pairwise_cons.1 h).2
    have ht := cmpL_turn (partsP x.path) (partsP y.path)
    have hr := cmpL_range (partsP x.path) (partsP y.path)
    unfold insI
    by_cases hc : cmpL (partsP y.path) (partsP x.path) = 1
    · rw [if_pos hc]
      refine List.pairwise_cons.2 ⟨fun u hu => ?_, h⟩
      rcases List.mem_cons.1 hu with rfl | hu
      · omega
      · have h3 := h1 u hu
        have h4 := cmpL_min (partsP x.path) (partsP y.path) (partsP u.path) (by omega) h3
        omega
    · rw [if_neg hc]
      refine List.pairwise_cons.2 ⟨fun u hu => ?_, insI_sorted x r h2⟩
      rcases List.mem_cons.1 ((insI_perm x r).mem_iff.1 hu) with rfl | hu
      · omega
      · exact h1 u hu
theorem sortR_snoc (l : List Itm) (x : Itm) : sortR (l ++ [x]) = insI x (sortR l) := by
  unfold sortR
  rw [List.foldl_append]
  rfl
theorem sortR_take {l : List Itm} {k : Nat} (h : k < l.length) : sortR (l.take (k + 1)) = insI l[k] (sortR (l.take k)) := by
  rw [List.take_succ_eq_append_getElem h, sortR_snoc]
theorem sortR_perm (l : List Itm) : (sortR l).Perm l := by
  induction l using snoc_rec with
  | h0 => exact List.Perm.refl _
  | h1 l x ih =>
    rw [sortR_snoc]
    exact (insI_perm x _).trans ((ih.cons x).trans (List.perm_append_singleton x l).symm)
theorem sortR_sorted (l : List Itm) : SortedI (sortR l) := by
  induction l using snoc_rec with
  | h0 => exact List.Pairwise.nil
  | h1 l x ih =>
    rw [sortR_snoc]
    exact insI_sorted x _ ih
theorem sortR_len (l : List Itm) : (sortR l).length = l.length := (sortR_perm l).length_eq

/-- the head of a row in order is as small as what is smallest -/
theorem head_path {z x : Itm} {r l : List Itm} (hs : SortedI (z :: r)) (hp : (z :: r).Perm l) (hx : x ∈ l) (hm : ∀ u ∈ l, cmpL (partsP x.path) (partsP u.path) ≤ 0) : z.path = x.path := by
  have h1 : cmpL (partsP x.path) (partsP z.path) ≤ 0 := hm z (hp.mem_iff.1 (by simp))
  have h2 : cmpL (partsP z.path) (partsP x.path) ≤ 0 := by
    rcases List.mem_cons.1 (hp.mem_iff.2 hx) with rfl | h
    · rw [(cmpL_zero _ _).2 rfl]; omega
    · exact (List.pairwise_cons.1 hs).1 x h
  have h3 := cmpL_turn (partsP x.path) (partsP z.path)
  exact (partsP_inj ((cmpL_zero _ _).1 (by omega))).symm
theorem head_min {x : Itm} {r : List Itm} (hs : SortedI (x :: r)) : ∀ u ∈ x :: r, cmpL (partsP x.path) (partsP u.path) ≤ 0 := fun u hu => by
  rcases List.mem_cons.1 hu with rfl | h
  · rw [(cmpL_zero _ _).2 rfl]; omega
  · exact (List.pairwise_cons.1 hs).1 u h
theorem last_snoc (pre : List Itm) (x : Itm) (p : ByteArray) : lastIs (pre ++ [x]) p = decide (x.path = p) := by
  unfold lastIs
  simp
/-- two rows in order of the same items are told alike -/
theorem goI_one : ∀ (N : Nat) (ys zs pre : List Itm), ys.length = N → ys.Perm zs → SortedI ys → SortedI zs → goI pre ys = goI pre zs := by
  intro N
  induction N with
  | zero =>
    intro ys zs pre hN hp _ _
    obtain rfl : ys = [] := List.eq_nil_of_length_eq_zero hN
    rw [List.Perm.nil_eq hp]
  | succ N ih =>
    intro ys zs pre hN hp hy hz
    match ys, zs, hN, hp, hy, hz with
    | x :: r, [], _, hp, _, _ => exact absurd hp.length_eq (by simp)
    | x :: r, y :: s, hN, hp, hy, hz =>
      have hpath : x.path = y.path := head_path hy hp (by simp) (head_min hz)
      have hst : stepI pre x = stepI pre y := by unfold stepI; rw [hpath]
      by_cases h0 : stepI pre x = 0
      · rw [goI_step h0, goI_step (hst ▸ h0)]
        by_cases hxy : x = y
        · subst hxy
          exact ih r s _ (by simpa using hN) (List.Perm.cons_inv hp) (List.pairwise_cons.1 hy).2 (List.pairwise_cons.1 hz).2
        · have hyr : y ∈ r := by
            rcases List.mem_cons.1 (hp.mem_iff.2 (show y ∈ y :: s by simp)) with h | h
            · exact absurd h.symm hxy
            · exact h
          have hxs : x ∈ s := by
            rcases List.mem_cons.1 (hp.mem_iff.1 (show x ∈ x :: r by simp)) with h | h
            · exact absurd h hxy
            · exact h
          have key : ∀ (u v : Itm) (t : List Itm), SortedI (u :: t) → v ∈ t → v.path = u.path → goI (pre ++ [u]) t = 8 := by
            intro u v t hs hv hvu
            match t, hs, hv with
            | c :: t, hs, hv =>
              have hc := List.pairwise_cons.1 (List.pairwise_cons.1 hs).2
              have h1 := (List.pairwise_cons.1 hs).1 c (by simp)
              have h2 : cmpL (partsP c.path) (partsP u.path) ≤ 0 := by
                rcases List.mem_cons.1 hv with rfl | h
                · rw [hvu, (cmpL_zero _ _).2 rfl]; omega
                · have := hc.1 v h
                  rwa [hvu] at this
              have h3 := cmpL_turn (partsP u.path) (partsP c.path)
              have h4 : u.path = c.path := partsP_inj ((cmpL_zero _ _).1 (by omega))
              have h5 : stepI (pre ++ [u]) c = 8 := by
                unfold stepI
                rw [if_pos (by rw [last_snoc]; exact decide_eq_true h4)]
              rw [goI_stop (by rw [h5]; decide), h5]
          rw [key x y r hy hyr hpath.symm, key y x s hz hxs hpath]
      · rw [goI_stop h0, goI_stop (hst ▸ h0), hst]
/-- what the document's check answers -/
def chkF (l : List Itm) : Nat := if 200 < l.length then 2 else if fitsE l ≠ 0 then fitsE l else goI [] (sortR l)
theorem chkF_one {l : List Itm} {e : Nat} (h : ChkR l e) : e = chkF l := by
  unfold chkF
  rcases h with ⟨h1, rfl⟩ | ⟨h1, h2, rfl⟩ | ⟨h1, h2, ys, h3, h4, rfl⟩
  · rw [if_pos h1]
  · rw [if_neg (by omega), if_pos h2]
  · rw [if_neg (by omega), if_neg (by omega)]
    exact goI_one _ ys (sortR l) [] rfl (h3.trans (sortR_perm l).symm) h4 (sortR_sorted l)
theorem chkF_zero {l : List Itm} : chkF l = 0 ↔ TreeOk l := by
  have h : ChkR l (chkF l) := by
    unfold chkF
    by_cases h1 : 200 < l.length
    · rw [if_pos h1]; exact .inl ⟨h1, rfl⟩
    · rw [if_neg h1]
      by_cases h2 : fitsE l = 0
      · rw [if_neg (by omega)]; exact .inr (.inr ⟨by omega, h2, sortR l, sortR_perm l, sortR_sorted l, rfl⟩)
      · rw [if_pos h2]; exact .inr (.inl ⟨by omega, h2, rfl⟩)
  exact chk_zero h

/-- the item at a path -/
def findI (l : List Itm) (p : ByteArray) : Option Itm := l.find? fun x => decide (x.path = p)
theorem find_no {l : List Itm} {p : ByteArray} (h : ∀ x ∈ l, x.path ≠ p) : findI l p = none := by
  unfold findI
  rw [List.find?_eq_none]
  intro x hx
  simpa using h x hx
theorem find_head {x : Itm} {r : List Itm} : findI (x :: r) x.path = some x := by
  unfold findI
  simp
theorem find_tail {x : Itm} {r : List Itm} {p : ByteArray} (h : x.path ≠ p) : findI (x :: r) p = findI r p := by
  unfold findI
  rw [List.find?_cons_of_neg]
  simpa using h
theorem find_perm {a b : List Itm} (hp : a.Perm b) (ha : Apart a) (p : ByteArray) : findI a p = findI b p := by
  induction hp with
  | nil => rfl
  | cons x hp ih =>
    by_cases h : x.path = p
    · subst h; rw [find_head, find_head]
    · rw [find_tail h, find_tail h]
      exact ih (List.pairwise_cons.1 ha).2
  | swap x y l =>
    have hxy : y.path ≠ x.path := (List.pairwise_cons.1 ha).1 x (by simp)
    by_cases h : x.path = p
    · subst h; rw [find_head, find_tail hxy, find_head]
    · rw [find_tail h]
      by_cases h' : y.path = p
      · subst h'; rw [find_head, find_head]
      · rw [find_tail h', find_tail h', find_tail h]
  | trans h1 h2 ih1 ih2 => exact (ih1 ha).trans (ih2 ((apart_perm h1).1 ha))
/-- what a path's items tell -/
def tellD (fr tt : List Itm) (p : ByteArray) : List (ByteArray × Nat) :=
  match findI fr p, findI tt p with
  | none, _ => [(p, 1)]
  | some _, none => [(p, 2)]
  | some a, some b => if a = b then [] else [(p, 3)]
def rdif (fr tt : List Itm) : List Itm → List Itm → List (ByteArray × Nat)
  | _, [] => []
  | pre, x :: r => (if lastIs pre x.path = true then [] else tellD fr tt x.path) ++ rdif fr tt (pre ++ [x]) r
theorem rdif_skip {fr tt pre r : List Itm} {x : Itm} (h : lastIs pre x.path = true) : rdif fr tt pre (x :: r) = rdif fr tt (pre ++ [x]) r := by
  conv => lhs; unfold rdif
  rw [if_pos h]; rfl
theorem rdif_take {fr tt pre r : List Itm} {x : Itm} (h : lastIs pre x.path = false) : rdif fr tt pre (x :: r) = tellD fr tt x.path ++ rdif fr tt (pre ++ [x]) r := by
  conv => lhs; unfold rdif
  rw [if_neg (by rw [h]; simp)]
theorem rdif_all : ∀ (N : Nat) (fr tt pre all a b : List Itm), a.length + b.length = N → all.Perm (a ++ b) → SortedI all → SortedI a → SortedI b → Apart a → Apart b →
    (∀ z ∈ all, findI fr z.path = findI a z.path ∧ findI tt z.path = findI b z.path) → (∀ z ∈ all, lastIs pre z.path = false) → rdif fr tt pre all = diffL a b := by
  intro N
  induction N using Nat.strongRecOn with
  | _ N ih =>
    intro fr tt pre all a b hN hp hs ha hb hpa hpb hf hl
    match a, b, hN, hp, ha, hb, hpa, hpb, hf with
    | [], [], _, hp, _, _, _, _, _ =>
      obtain rfl : all = [] := List.Perm.eq_nil hp
      rw [diff_nn]
      rfl
    | [], y :: b, hN, hp, _, hb, _, hpb, hf =>
      obtain rfl : all = y :: b := sorted_one all (y :: b) hp hs hb ((apart_perm hp).2 hpb)
      have h1 := List.pairwise_cons.1 hpb
      rw [rdif_take (hl y (by simp)), diff_ny]
      have ht : tellD fr tt y.path = [(y.path, 1)] := by
        unfold tellD
        rw [(hf y (by simp)).1, (hf y (by simp)).2, find_head]
        rfl
      rw [ht]
      refine congrArg _ (ih b.length (by simp at hN; omega) fr tt _ b [] b (by simp) (List.Perm.refl _) (List.pairwise_cons.1 hb).2 List.Pairwise.nil (List.pairwise_cons.1 hb).2 List.Pairwise.nil h1.2 (fun z hz => ?_) fun z hz => ?_)
      · have h2 := hf z (by simp [hz])
        rw [find_tail (h1.1 z hz)] at h2
        exact h2
      · rw [last_snoc]
        exact decide_eq_false (h1.1 z hz)
    | x :: a, [], hN, hp, ha, _, hpa, _, hf =>
      rw [List.append_nil] at hp
      obtain rfl : all = x :: a := sorted_one all (x :: a) hp hs ha ((apart_perm hp).2 hpa)
      have h1 := List.pairwise_cons.1 hpa
      rw [rdif_take (hl x (by simp)), diff_xn]
      have ht : tellD fr tt x.path = [(x.path, 2)] := by
        unfold tellD
        rw [(hf x (by simp)).1, (hf x (by simp)).2, find_head]
        rfl
      rw [ht]
      refine congrArg _ (ih a.length (by simp at hN; omega) fr tt _ a a [] (by simp) (by rw [List.append_nil]) (List.pairwise_cons.1 ha).2 (List.pairwise_cons.1 ha).2 List.Pairwise.nil h1.2 List.Pairwise.nil (fun z hz => ?_) fun z hz => ?_)
      · have h2 := hf z (by simp [hz])
        rw [find_tail (h1.1 z hz)] at h2
        exact h2
      · rw [last_snoc]
        exact decide_eq_false (h1.1 z hz)
    | x :: a, y :: b, hN, hp, ha, hb, hpa, hpb, hf =>
      have hp1 := List.pairwise_cons.1 hpa
      have hp2 := List.pairwise_cons.1 hpb
      have ha1 := List.pairwise_cons.1 ha
      have hb1 := List.pairwise_cons.1 hb
      have hct := cmpL_turn (partsP x.path) (partsP y.path)
      have hcr := cmpL_range (partsP x.path) (partsP y.path)
      simp only [List.length_cons] at hN
      match all, hp, hs, hf, hl with
      | [], hp, _, _, _ => exact absurd hp.length_eq (by simp)
      | z :: all, hp, hs, hf, hl =>
      by_cases h1 : cmpL (partsP x.path) (partsP y.path) < 0
      · have hby : ∀ u ∈ y :: b, cmpL (partsP x.path) (partsP u.path) = -1 := fun u hu => by
          have h3 := head_min hb u hu
          have h4 := cmpL_min (partsP x.path) (partsP y.path) (partsP u.path) (by omega) h3
          have h5 := cmpL_range (partsP x.path) (partsP u.path)
          omega
        have hby' : ∀ u ∈ y :: b, x.path ≠ u.path := fun u hu e => by
          have := hby u hu
          rw [e, (cmpL_zero _ _).2 rfl] at this
          omega
        have hzp : z.path = x.path := head_path hs hp (by simp) fun u hu => by
          rcases List.mem_append.1 hu with h | h
          · exact head_min ha u h
          · rw [hby u h]; omega
        have hzx : z = x := by
          rcases List.mem_append.1 (hp.mem_iff.1 (show z ∈ z :: all by simp)) with h | h
          · rcases List.mem_cons.1 h with h | h
            · exact h
            · exact absurd hzp.symm (hp1.1 z h)
          · exact absurd hzp.symm (hby' z h)
        subst hzx
        have hp3 : all.Perm (a ++ y :: b) := List.Perm.cons_inv hp
        have hne : ∀ u ∈ all, z.path ≠ u.path := fun u hu => by
          rcases List.mem_append.1 (hp3.mem_iff.1 hu) with h | h
          · exact hp1.1 u h
          · exact hby' u h
        rw [rdif_take (hl z (by simp)), diff_lt h1]
        have ht : tellD fr tt z.path = [(z.path, 2)] := by
          unfold tellD
          rw [(hf z (by simp)).1, (hf z (by simp)).2, find_head, find_no fun u hu => (hby' u hu).symm]
        rw [ht]
        refine congrArg _ (ih (a.length + (b.length + 1)) (by omega) fr tt _ all a (y :: b) (by simp) hp3 (List.pairwise_cons.1 hs).2 ha1.2 hb hp1.2 hpb (fun u hu => ?_) fun u hu => ?_)
        · have h2 := hf u (by simp [hu])
          rw [find_tail (hne u hu)] at h2
          exact h2
        · rw [last_snoc]
          exact decide_eq_false (hne u hu)
      · by_cases h2 : cmpL (partsP x.path) (partsP y.path) > 0
        · have hby : ∀ u ∈ x :: a, cmpL (partsP y.path) (partsP u.path) = -1 := fun u hu => by
            have h3 := head_min ha u hu
            have h4 := cmpL_min (partsP y.path) (partsP x.path) (partsP u.path) (by omega) h3
            have h5 := cmpL_range (partsP y.path) (partsP u.path)
            omega
          have hby' : ∀ u ∈ x :: a, y.path ≠ u.path := fun u hu e => by
            have := hby u hu
            rw [e, (cmpL_zero _ _).2 rfl] at this
            omega
          have hzp : z.path = y.path := head_path hs hp (by simp) fun u hu => by
            rcases List.mem_append.1 hu with h | h
            · rw [hby u h]; omega
            · exact head_min hb u h
          have hzy : z = y := by
            rcases List.mem_append.1 (hp.mem_iff.1 (show z ∈ z :: all by simp)) with h | h
            · exact absurd hzp.symm (hby' z h)
            · rcases List.mem_cons.1 h with h | h
              · exact h
              · exact absurd hzp.symm (hp2.1 z h)
          subst hzy
          have hp3 : all.Perm (x :: a ++ b) := List.Perm.cons_inv (hp.trans List.perm_middle)
          have hne : ∀ u ∈ all, z.path ≠ u.path := fun u hu => by
            rcases List.mem_append.1 (hp3.mem_iff.1 hu) with h | h
            · exact hby' u h
            · exact hp2.1 u h
          rw [rdif_take (hl z (by simp)), diff_gt h1 h2]
          have ht : tellD fr tt z.path = [(z.path, 1)] := by
            unfold tellD
            rw [(hf z (by simp)).1, (hf z (by simp)).2, find_head, find_no fun u hu => (hby' u hu).symm]
          rw [ht]
          refine congrArg _ (ih (a.length + 1 + b.length) (by omega) fr tt _ all (x :: a) b (by simp) hp3 (List.pairwise_cons.1 hs).2 ha hb1.2 hpa hp2.2 (fun u hu => ?_) fun u hu => ?_)
          · have h2 := hf u (by simp [hu])
            rw [find_tail (hne u hu)] at h2
            exact h2
          · rw [last_snoc]
            exact decide_eq_false (hne u hu)
        · have hc0 : cmpL (partsP x.path) (partsP y.path) = 0 := by omega
          have hxy : x.path = y.path := partsP_inj ((cmpL_zero _ _).1 hc0)
          have hmin : ∀ u ∈ x :: a ++ y :: b, cmpL (partsP x.path) (partsP u.path) ≤ 0 := fun u hu => by
            rcases List.mem_append.1 hu with h | h
            · exact head_min ha u h
            · rw [hxy]; exact head_min hb u h
          have hna : ∀ u ∈ a ++ b, x.path ≠ u.path := fun u hu => by
            rcases List.mem_append.1 hu with h | h
            · exact hp1.1 u h
            · rw [hxy]; exact hp2.1 u h
          have hzp : z.path = x.path := head_path hs hp (by simp) hmin
          have hp2' : (z :: all).Perm (x :: y :: (a ++ b)) := hp.trans (List.perm_middle.cons x)
          -- the second one of the same path
          have hsec : ∃ z' all', all = z' :: all' ∧ z'.path = x.path ∧ all'.Perm (a ++ b) := by
            have hz : z = x ∨ z = y := by
              have := hp2'.mem_iff.1 (show z ∈ z :: all by simp)
              rcases List.mem_cons.1 this with h | h
              · exact .inl h
              · rcases List.mem_cons.1 h with h | h
                · exact .inr h
                · exact absurd hzp.symm (hna z h)
            have step : ∀ v : Itm, v.path = x.path → all.Perm (v :: (a ++ b)) → ∃ z' all', all = z' :: all' ∧ z'.path = x.path ∧ all'.Perm (a ++ b) := by
              intro v hv hq
              match all, hs, hq with
              | [], _, hq => exact absurd hq.length_eq (by simp)
              | z' :: all', hs, hq =>
                have hz' : z'.path = v.path := head_path (List.pairwise_cons.1 hs).2 hq (by simp) fun u hu => by
                  rcases List.mem_cons.1 hu with rfl | h
                  · rw [(cmpL_zero _ _).2 rfl]; omega
                  · rw [hv]
                    refine hmin u ?_
                    rcases List.mem_append.1 h with h | h
                    · simp [h]
                    · simp [h]
                have hzv : z' = v := by
                  rcases List.mem_cons.1 (hq.mem_iff.1 (show z' ∈ z' :: all' by simp)) with h | h
                  · exact h
                  · exact absurd (hv.symm.trans hz'.symm) (hna z' h)
                subst hzv
                exact ⟨z', all', rfl, hv, List.Perm.cons_inv hq⟩
            rcases hz with rfl | rfl
            · exact step y hxy.symm (List.Perm.cons_inv hp2')
            · exact step x rfl (List.Perm.cons_inv (hp2'.trans (List.Perm.swap z x (a ++ b))))
          obtain ⟨z', all', rfl, hz', hq⟩ := hsec
          have hne : ∀ u ∈ all', x.path ≠ u.path := fun u hu => hna u (hq.mem_iff.1 hu)
          rw [rdif_take (hl z (by simp)), rdif_skip (by rw [last_snoc]; exact decide_eq_true (hzp.trans hz'.symm))]
          have hrec : rdif fr tt (pre ++ [z] ++ [z']) all' = diffL a b := by
            refine ih (a.length + b.length) (by omega) fr tt _ all' a b rfl hq (List.pairwise_cons.1 (List.pairwise_cons.1 hs).2).2 ha1.2 hb1.2 hp1.2 hp2.2 (fun u hu => ?_) fun u hu => ?_
            · have h2 := hf u (by simp [hu])
              rw [find_tail (hne u hu), find_tail (by rw [← hxy]; exact hne u hu)] at h2
              exact h2
            · rw [last_snoc, hz']
              exact decide_eq_false (hne u hu)
          have hfz := hf z (by simp)
          rw [hzp, find_head] at hfz
          rw [hxy, find_head] at hfz
          rw [hrec, hzp]
          unfold tellD
          rw [hxy, hfz.1, hfz.2]
          by_cases he : x = y
          · rw [diff_eq hc0 he]
            simp [he]
          · rw [diff_ne hc0 he, hxy]
            simp [he]
/-- the document's difference of two trees -/
theorem rdif_eq {fr tt a b : List Itm} (ha : a.Perm fr) (hb : b.Perm tt) (hsa : SortedI a) (hsb : SortedI b) (hpa : Apart a) (hpb : Apart b) : rdif fr tt [] (sortR (fr ++ tt)) = diffL a b :=
  rdif_all _ fr tt [] _ a b rfl ((sortR_perm _).trans (ha.append hb).symm) (sortR_sorted _) hsa hsb hpa hpb (fun z _ => ⟨(find_perm ha hpa z.path).symm, (find_perm hb hpb z.path).symm⟩) fun _ _ => rfl
end Go.Proofs.YtaoejgnfoecpfaaDoor
namespace Go.Proofs.YtaoejgnfoecpfaaDoor
set_option linter.unusedVariables false
set_option linter.unusedSimpArgs false
set_option linter.unusedSectionVars false
open Go.RowKit

theorem ins_done {nx S R : List Itm} {j : Nat} (h : nx ++ S.drop j = R) (hj : j < S.length) : (nx ++ [S[j]]) ++ S.drop (j + 1) = R := by
  rw [← h, List.drop_eq_getElem_cons hj]; simp
theorem ins_here {nx S R : List Itm} {j : Nat} {x : Itm} (h : nx ++ insI x (S.drop j) = R) (hj : j < S.length) (hc : cmpL (partsP S[j].path) (partsP x.path) = 1) : ((nx ++ [x]) ++ [S[j]]) ++ S.drop (j + 1) = R := by
  rw [← h, List.drop_eq_getElem_cons hj]
  conv => rhs; unfold insI
  rw [if_pos hc]; simp
theorem ins_past {nx S R : List Itm} {j : Nat} {x : Itm} (h : nx ++ insI x (S.drop j) = R) (hj : j < S.length) (hc : cmpL (partsP S[j].path) (partsP x.path) ≠ 1) : (nx ++ [S[j]]) ++ insI x (S.drop (j + 1)) = R := by
  rw [← h, List.drop_eq_getElem_cons hj]
  conv => rhs; unfold insI
  rw [if_neg hc]; simp
theorem ins_end {nx S R : List Itm} (h : nx ++ S.drop S.length = R) : nx = R := by
  rw [← h, List.drop_length, List.append_nil]
theorem ins_last {nx S R : List Itm} {x : Itm} (h : nx ++ insI x (S.drop S.length) = R) : nx ++ [x] = R := by
  rw [← h, List.drop_length]; rfl
set_option maxRecDepth 100000 in
set_option maxHeartbeats 6400000 in
theorem rsort_any (A : Option Addr) (c : Nat) (l : List Itm) (w : World) (hi : ItmA w A l) (hp : ∀ x ∈ l, x.path.size ≤ 1000000) (hl : (l.length + 1) * 56 ≤ 140737488355328) :
    Calls Tryd.prog 92 #[.slice A l.length c] w fun e w' => ∃ B d, e = .returned (.slice B l.length d) ∧ ItmA w' B (sortR l) ∧ l.length ≤ d ∧ Below w.heap.size w w' := by
  have HN := Lib.hid fun W (hb : Below w.heap.size w W) => hi.below hb
  have HPZ := Lib.hid hp
  have HB0 := Lib.hid ((Below.refl w.heap.size w).alloc (Nat.le_refl _) (.cells #[] 59))
  clear hi hp
  go_enter Tryd.func92, Tryd.ntmps92
  go_wp2
  go_loopw [3, 13] (fun ov iv wr => ∃ (k : Nat) (B : Option Addr) (d : Nat), ov = .slice B k d ∧ iv = .int .i64 (k : Nat) ∧ k ≤ l.length ∧ k ≤ d ∧ Hid (ItmA wr B (sortR (l.take k))) ∧ Hid (Below w.heap.size w wr)) (fun _ iv _ => l.length - (intOf iv).toNat)
  case atStart => exact ⟨0, _, 0, rfl, rfl, Nat.zero_le _, Nat.zero_le _, Lib.hid (fun h => absurd h (Nat.lt_irrefl 0)), HB0⟩
  case round =>
    clear HB0
    obtain ⟨k, B, d, rfl, rfl, hk, hkd, HS, HB⟩ := hrel
    by_cases hkl : k < l.length
    · have hki : (k : Int) < (l.length : Int) := by omega
      obtain ⟨g, o, rfl, hg, hcc⟩ := HN.out wr HB.out (by omega)
      obtain ⟨q0, q1, q2, q3, q4⟩ := itm_cells hcc hkl
      clear hcc
      have HST := Lib.hid (sortR_take hkl)
      have HSL := Lib.hid (show (sortR (l.take k)).length = k by rw [sortR_len, List.length_take]; omega)
      have HSZ := Lib.hid (show ∀ y ∈ sortR (l.take k), y.path.size ≤ 1000000 from fun y hy => HPZ.out y (List.mem_of_mem_take ((sortR_perm _).mem_iff.1 hy)))
      have hxz := HPZ.out _ (List.getElem_mem hkl)
      generalize sortR (l.take k) = S at *
      generalize l[k] = x at *
      obtain ⟨pa, ki, mo, ti, da⟩ := x
      simp only at q0 q1 q2 q3 q4 hxz
      have hba := (Below.refl wr.heap.size wr).alloc (Nat.le_refl _) (.cells #[.string pa, .int .i64 ki, .int .i64 mo, .int .i64 ti, .string da] 59)
      have HB4 := Lib.hid (HB.out.trans (hba.mono HB.out.size))
      have HK := Lib.hid (Blk.new wr 59 #[.string pa, .int .i64 ki, .int .i64 mo, .int .i64 ti, .string da])
      have HS4 := Lib.hid (HS.out.below hba)
      clear hba HS HB
      obtain ⟨wo, rfl⟩ : ∃ wo : World, wo = wr := ⟨_, rfl⟩
      go_upto_region 5 with fail
      generalize wo.alloc (.cells #[.string pa, .int .i64 ki, .int .i64 mo, .int .i64 ti, .string da] 59) = w4 at *
      have HB5 := Lib.hid ((Below.refl w4.heap.size w4).alloc (Nat.le_refl _) (.cells #[] 59))
      have HO5 := Lib.hid (own_emptyI (w := w4) (B := w4.heap.size) (Nat.le_refl _))
      have hSl := HSL.out
      go_wp2
      go_loopw [6, 7, 20] (fun nv dv jv wr => ∃ (j : Nat) (dn : Bool) (C : Option Addr) (e : Nat) (nx : List Itm), nv = .slice C nx.length e ∧ dv = .bool dn ∧ jv = .int .i64 (j : Nat) ∧ j ≤ k ∧ nx.length ≤ j + 1 ∧ (dn = false → nx.length ≤ j) ∧ Hid (nx ++ (if dn then S.drop j else insI ⟨pa, ki, mo, ti, da⟩ (S.drop j)) = insI ⟨pa, ki, mo, ti, da⟩ S) ∧ Hid (wr.ownsRow w4.heap.size 59 5 (.slice C nx.length e) nx.length (itmsC nx)) ∧ Hid (Below w4.heap.size w4 wr)) (fun _ _ jv _ => k - (intOf jv).toNat)
      case atStart => exact ⟨0, false, _, 0, [], rfl, rfl, rfl, Nat.zero_le _, Nat.zero_le _, fun _ => Nat.zero_le _, Lib.hid rfl, HO5, HB5⟩
      case round =>
        clear HO5 HB5
        obtain ⟨j, dn, C, e, nx, rfl, rfl, rfl, hj, hnx, hnd, HI, HO, HBI⟩ := hrel
        by_cases hjl : j < k
        · have hji : (j : Int) < (k : Int) := by omega
          obtain ⟨g', o', rfl, hg', hcc⟩ := HS4.out.below HBI.out (by omega)
          obtain ⟨p0, p1, p2, p3, p4⟩ := itm_cells hcc (show j < S.length by omega)
          clear hcc
          have I1 := Lib.hid fun R (h : nx ++ S.drop j = R) => ins_done h (show j < S.length by omega)
          have I2 := Lib.hid fun R x (h : nx ++ insI x (S.drop j) = R) => ins_here h (show j < S.length by omega)
          have I3 := Lib.hid fun R x (h : nx ++ insI x (S.drop j) = R) => ins_past h (show j < S.length by omega)
          have hyz := HSZ.out _ (List.getElem_mem (show j < S.length by omega))
          generalize S[j] = y at *
          obtain ⟨ya, yb, yc, yd, ye⟩ := y
          simp only at p0 p1 p2 p3 p4 hyz
          have hbx := (Below.refl wr.heap.size wr).alloc (Nat.le_refl _) (.cells #[.string ya, .int .i64 yb, .int .i64 yc, .int .i64 yd, .string ye] 59)
          have HKX := Lib.hid ((HK.out.below HBI.out HK.out.lt).below hbx (HK.out.below HBI.out HK.out.lt).lt)
          have HKY := Lib.hid (Blk.new wr 59 #[.string ya, .int .i64 yb, .int .i64 yc, .int .i64 yd, .string ye])
          have HO6 := Lib.hid (own_atN HO.out fun i hi => hbx.block i (HO.out.lt i hi).2)
          have HBJ := Lib.hid (HBI.out.trans (hbx.mono HBI.out.size))
          have HLT := Lib.hid fun i h => (HO.out.lt i h).2
          clear hbx HO HBI
          obtain ⟨wi, rfl⟩ : ∃ wi : World, wi = wr := ⟨_, rfl⟩
          go_upto_region 10 with fail
          generalize wi.alloc (.cells #[.string ya, .int .i64 yb, .int .i64 yc, .int .i64 yd, .string ye] 59) = w6 at *
          cases dn with
          | true =>
            have HV := Lib.hid (I1.out _ HI.out)
            have s0 : w6.cell? ⟨wi.heap.size, 0, none⟩ = some (.string ya) := HKY.out.cell 0
            have s1 : w6.cell? ⟨wi.heap.size, 1, none⟩ = some (.int .i64 yb) := HKY.out.cell 1
            have s2 : w6.cell? ⟨wi.heap.size, 2, none⟩ = some (.int .i64 yc) := HKY.out.cell 2
            have s3 : w6.cell? ⟨wi.heap.size, 3, none⟩ = some (.int .i64 yd) := HKY.out.cell 3
            have s4 : w6.cell? ⟨wi.heap.size, 4, none⟩ = some (.string ye) := HKY.out.cell 4
            have hl7 : (itmsC nx).length = (nx).length * 5 := itmsC_len _
            go_wp2_with (at_builtin; refine wpList_app1s rfl _ _ 49 rfl w4.heap.size 59 Tryd.underlying49 infoItem rfl (by decide) _ _ _ rfl HO6.out _ (by simp) rfl rfl (by simp [Value.oneCell']) (by omega) (by omega) HBJ.out.size ?_; intro g7 cap7 w7 ho7 hg7 hb7 hl7'
                         have HO7 := Lib.hid (show w7.ownsRow w4.heap.size 59 5 (.slice (some ⟨g7, 0, none⟩) ((nx).length + 1) cap7) ((nx).length + 1) (itmsC (nx ++ [⟨ya, yb, yc, yd, ye⟩])) by
                           rw [itmsC_add]
                           exact ho7)
                         have HB7 := Lib.hid (HBJ.out.grown hg7 HBJ.out.size fun j hj => (HO6.out.lt j hj).1)
                         have hgr7 := hg7
                         clear ho7 hg7 hb7 hl7)
            go_wp2
            go_roundw
            case rel => exact ⟨j + 1, true, some ⟨g7, 0, none⟩, cap7, nx ++ [⟨ya, yb, yc, yd, ye⟩], by simp, rfl, by go_num, by omega, by simp; omega, by simp; try omega, Lib.hid HV.out, Lib.hid (by simpa using HO7.out), HB7⟩
            case measure => simp [intOf]; omega
          | false =>
            have hnf := hnd rfl
            clear hnd
            have r0 : w6.cell? ⟨wo.heap.size, 0, none⟩ = some (.string pa) := HKX.out.cell 0
            have s0 : w6.cell? ⟨wi.heap.size, 0, none⟩ = some (.string ya) := HKY.out.cell 0
            go_wp2_with fail
            refine (refcompare_any ya pa w6 hyz hxz).mono ?_
            rintro e wc ⟨rfl, hbc⟩
            have HKX7 := Lib.hid (HKX.out.below hbc HKX.out.lt)
            have HKY7 := Lib.hid (HKY.out.below hbc HKY.out.lt)
            have HO7 := Lib.hid (own_atN HO6.out fun i hi => hbc.block i (HO6.out.lt i hi).2)
            have HB7 := Lib.hid (HBJ.out.trans (hbc.mono HBJ.out.size))
            clear hbc r0 s0 HKX HKY HO6 HBJ
            have r0 : wc.cell? ⟨wo.heap.size, 0, none⟩ = some (.string pa) := HKX7.out.cell 0
            have r1 : wc.cell? ⟨wo.heap.size, 1, none⟩ = some (.int .i64 ki) := HKX7.out.cell 1
            have r2 : wc.cell? ⟨wo.heap.size, 2, none⟩ = some (.int .i64 mo) := HKX7.out.cell 2
            have r3 : wc.cell? ⟨wo.heap.size, 3, none⟩ = some (.int .i64 ti) := HKX7.out.cell 3
            have r4 : wc.cell? ⟨wo.heap.size, 4, none⟩ = some (.string da) := HKX7.out.cell 4
            have s0 : wc.cell? ⟨wi.heap.size, 0, none⟩ = some (.string ya) := HKY7.out.cell 0
            have s1 : wc.cell? ⟨wi.heap.size, 1, none⟩ = some (.int .i64 yb) := HKY7.out.cell 1
            have s2 : wc.cell? ⟨wi.heap.size, 2, none⟩ = some (.int .i64 yc) := HKY7.out.cell 2
            have s3 : wc.cell? ⟨wi.heap.size, 3, none⟩ = some (.int .i64 yd) := HKY7.out.cell 3
            have s4 : wc.cell? ⟨wi.heap.size, 4, none⟩ = some (.string ye) := HKY7.out.cell 4
            by_cases hcv : cmpL (partsP ya) (partsP pa) = 1
            · have hcb : (cmpL (partsP ya) (partsP pa) == 1) = true := by rw [hcv]; rfl
              have HV := Lib.hid (I2.out _ _ HI.out hcv)
              generalize cmpL (partsP ya) (partsP pa) = cv at *
              have hl8 : (itmsC nx).length = nx.length * 5 := itmsC_len _
              go_upto_region 13 with (at_builtin; refine wpList_app1s rfl _ _ 49 rfl w4.heap.size 59 Tryd.underlying49 infoItem rfl (by decide) _ _ _ rfl HO7.out _ (by simp) rfl rfl (by simp [Value.oneCell']) (by omega) (by omega) HB7.out.size ?_; intro g8 cap8 w8 ho8 hg8 hb8 hl8x
                                      have HO8 := Lib.hid (show w8.ownsRow w4.heap.size 59 5 (.slice (some ⟨g8, 0, none⟩) (nx.length + 1) cap8) (nx.length + 1) (itmsC (nx ++ [(⟨pa, ki, mo, ti, da⟩ : Itm)])) by
                                        rw [itmsC_add]
                                        exact ho8)
                                      have HB8 := Lib.hid (HB7.out.grown hg8 HB7.out.size fun j hj => (HO7.out.lt j hj).1)
                                      have HKY8 := Lib.hid (Blk.grown HKY7.out hg8 fun h => absurd (HLT.out _ h.symm) (Nat.lt_irrefl _))
                                      clear ho8 hg8 hb8 hl8x)
              have u0 : w8.cell? ⟨wi.heap.size, 0, none⟩ = some (.string ya) := HKY8.out.cell 0
              have u1 : w8.cell? ⟨wi.heap.size, 1, none⟩ = some (.int .i64 yb) := HKY8.out.cell 1
              have u2 : w8.cell? ⟨wi.heap.size, 2, none⟩ = some (.int .i64 yc) := HKY8.out.cell 2
              have u3 : w8.cell? ⟨wi.heap.size, 3, none⟩ = some (.int .i64 yd) := HKY8.out.cell 3
              have u4 : w8.cell? ⟨wi.heap.size, 4, none⟩ = some (.string ye) := HKY8.out.cell 4
              clear hl8 HO7 HB7 HKY7 HKX7 r0 r1 r2 r3 r4 s0 s1 s2 s3 s4
              have hnm : (nx ++ [(⟨pa, ki, mo, ti, da⟩ : Itm)]).length = nx.length + 1 := by simp
              have hnk : nx.length + 1 ≤ l.length := by omega
              have hnj : nx.length + 1 ≤ j + 1 := by omega
              generalize nx ++ [(⟨pa, ki, mo, ti, da⟩ : Itm)] = ny at *
              generalize nx.length + 1 = m at *
              go_wp2_with (at_builtin; refine wpList_app1s rfl _ _ 49 rfl w4.heap.size 59 Tryd.underlying49 infoItem rfl (by decide) _ _ _ rfl HO8.out _ (by simp) rfl rfl (by simp [Value.oneCell']) (by omega) (by omega) HB8.out.size ?_; intro g9 cap9 w9 ho9 hg9 hb9 hl9x
                           have HO9 := Lib.hid (show w9.ownsRow w4.heap.size 59 5 (.slice (some ⟨g9, 0, none⟩) (m + 1) cap9) (m + 1) (itmsC (ny ++ [(⟨ya, yb, yc, yd, ye⟩ : Itm)])) by
                             rw [itmsC_add]
                             exact ho9)
                           have HB9 := Lib.hid (HB8.out.grown hg9 HB8.out.size fun j hj => (HO8.out.lt j hj).1)
                           clear ho9 hg9 hb9 hl9x)
              subst hnm
              go_wp2
              go_roundw
              case rel => exact ⟨j + 1, true, some ⟨g9, 0, none⟩, cap9, ny ++ [⟨ya, yb, yc, yd, ye⟩], by simp, rfl, by go_num, by omega, by simp; omega, by simp; try omega, Lib.hid HV.out, Lib.hid (by simpa using HO9.out), HB9⟩
              case measure => simp [intOf]; omega
            · have hcb : (cmpL (partsP ya) (partsP pa) == 1) = false := by rw [beq_eq_false_iff_ne]; exact hcv
              have HV := Lib.hid (I3.out _ _ HI.out hcv)
              generalize cmpL (partsP ya) (partsP pa) = cv at *
              have hl8 : (itmsC nx).length = (nx).length * 5 := itmsC_len _
              go_wp2_with (at_builtin; refine wpList_app1s rfl _ _ 49 rfl w4.heap.size 59 Tryd.underlying49 infoItem rfl (by decide) _ _ _ rfl HO7.out _ (by simp) rfl rfl (by simp [Value.oneCell']) (by omega) (by omega) HB7.out.size ?_; intro g8 cap8 w8 ho8 hg8 hb8 hl8'
                           have HO8 := Lib.hid (show w8.ownsRow w4.heap.size 59 5 (.slice (some ⟨g8, 0, none⟩) ((nx).length + 1) cap8) ((nx).length + 1) (itmsC (nx ++ [⟨ya, yb, yc, yd, ye⟩])) by
                             rw [itmsC_add]
                             exact ho8)
                           have HB8 := Lib.hid (HB7.out.grown hg8 HB7.out.size fun j hj => (HO7.out.lt j hj).1)
                           have hgr8 := hg8
                           clear ho8 hg8 hb8 hl8)
              go_wp2
              go_roundw
              case rel => exact ⟨j + 1, false, some ⟨g8, 0, none⟩, cap8, nx ++ [⟨ya, yb, yc, yd, ye⟩], by simp, rfl, by go_num, by omega, by simp; omega, by simp; try omega, Lib.hid HV.out, Lib.hid (by simpa using HO8.out), HB8⟩
              case measure => simp [intOf]; omega
        · obtain rfl : j = k := by omega
          have hji : ¬ (j : Int) < (j : Int) := by omega
          have HB6 := Lib.hid (HB4.out.trans (HBI.out.mono HB4.out.size))
          have HKX := Lib.hid (HK.out.below HBI.out HK.out.lt)
          have hdj : S.drop j = [] := List.drop_of_length_le (by omega)
          cases dn with
          | true =>
            have HV := Lib.hid (show nx = sortR (l.take (j + 1)) by rw [HST.out, ← HI.out, hdj]; simp)
            have hnl : nx.length = j + 1 := by rw [HV.out, sortR_len, List.length_take]; omega
            have HIA := Lib.hid (own_itmA HO.out rfl)
            have hcap := own_cap HO.out
            go_wp2
            go_roundw
            case rel => exact ⟨j + 1, C, e, by rw [hnl], by go_num, by omega, by omega, Lib.hid (by rw [← HV.out]; exact HIA.out), HB6⟩
            case measure => simp [intOf]; omega
          | false =>
            have HV := Lib.hid (show nx ++ [⟨pa, ki, mo, ti, da⟩] = sortR (l.take (j + 1)) by rw [HST.out, ← HI.out, hdj]; rfl)
            have hnl : nx.length + 1 = j + 1 := by
              have := congrArg List.length HV.out
              rw [sortR_len, List.length_take] at this
              simp at this
              omega
            have hnj : nx.length = j := by omega
            have r0 : wr.cell? ⟨wo.heap.size, 0, none⟩ = some (.string pa) := HKX.out.cell 0
            have r1 : wr.cell? ⟨wo.heap.size, 1, none⟩ = some (.int .i64 ki) := HKX.out.cell 1
            have r2 : wr.cell? ⟨wo.heap.size, 2, none⟩ = some (.int .i64 mo) := HKX.out.cell 2
            have r3 : wr.cell? ⟨wo.heap.size, 3, none⟩ = some (.int .i64 ti) := HKX.out.cell 3
            have r4 : wr.cell? ⟨wo.heap.size, 4, none⟩ = some (.string da) := HKX.out.cell 4
            have hl8 : (itmsC nx).length = (nx).length * 5 := itmsC_len _
            go_wp2_with (at_builtin; refine wpList_app1s rfl _ _ 49 rfl w4.heap.size 59 Tryd.underlying49 infoItem rfl (by decide) _ _ _ rfl HO.out _ (by simp) rfl rfl (by simp [Value.oneCell']) (by omega) (by omega) HBI.out.size ?_; intro g8 cap8 w8 ho8 hg8 hb8 hl8'
                         have HO8 := Lib.hid (show w8.ownsRow w4.heap.size 59 5 (.slice (some ⟨g8, 0, none⟩) ((nx).length + 1) cap8) ((nx).length + 1) (itmsC (nx ++ [⟨pa, ki, mo, ti, da⟩])) by
                           rw [itmsC_add]
                           exact ho8)
                         have HB8 := Lib.hid (HBI.out.grown hg8 HBI.out.size fun j hj => (HO.out.lt j hj).1)
                         have hgr8 := hg8
                         clear ho8 hg8 hb8 hl8)
            have HBZ := Lib.hid (HB4.out.trans (HB8.out.mono HB4.out.size))
            have HIA := Lib.hid (own_itmA HO8.out (by simp))
            have hcap := own_cap HO8.out
            go_wp2
            go_roundw
            case rel => exact ⟨j + 1, some ⟨g8, 0, none⟩, cap8, by simp, by go_num, by omega, by omega, Lib.hid (by rw [← HV.out]; exact HIA.out), HBZ⟩
            case measure => simp [intOf]; omega
    · obtain rfl : k = l.length := by omega
      have hki : ¬ (l.length : Int) < (l.length : Int) := by omega
      have hs := HS.out
      rw [List.take_length] at hs
      go_wp2
      go_ret
      exact ⟨B, d, rfl, hs, hkd, HB.out⟩
end Go.Proofs.YtaoejgnfoecpfaaDoor
namespace Go.Proofs.YtaoejgnfoecpfaaDoor
set_option linter.unusedVariables false
set_option linter.unusedSimpArgs false
set_option linter.unusedSectionVars false
open Go.RowKit

theorem there_take {ys : List Itm} {j : Nat} (p : ByteArray) (h : j < ys.length) : thereI (ys.take (j + 1)) p = (thereI (ys.take j) p || (decide (ys[j].kind = 1) && decide (ys[j].path = p))) := by
  rw [List.take_succ_eq_append_getElem h, thereI_snoc]
theorem dec_empty (s : ByteArray) : decide (s = ByteArray.empty) = decide (s.size = 0) := by
  by_cases h : s.size = 0
  · have e : s = ByteArray.empty := by
      apply ba_inj
      rw [List.eq_nil_of_length_eq_zero (show s.data.toList.length = 0 by rw [ba_len]; exact h)]
      rfl
    rw [decide_eq_true h, decide_eq_true e]
  · rw [decide_eq_false h, decide_eq_false fun e => h (by rw [e]; rfl)]
set_option maxRecDepth 100000 in
set_option maxHeartbeats 6400000 in
theorem rchk_any (A : Option Addr) (c : Nat) (l : List Itm) (w : World) (hi : ItmA w A l) (hb : ∀ x ∈ l, ItB x) (hp : ∀ x ∈ l, x.path.size ≤ 1100000) (hl : l.length ≤ 9223372036854775807) :
    Calls Tryd.prog 58 #[.slice A l.length c] w fun e w' => e = .returned (.int .i64 (chkF l : Nat)) ∧ Below w.heap.size w w' := by
  have HN := Lib.hid fun W (hb : Below w.heap.size w W) => hi.below hb
  have HB := Lib.hid hb
  have HPZ := Lib.hid hp
  have HCF := Lib.hid (show chkF l = if 200 < l.length then 2 else if fitsE l ≠ 0 then fitsE l else goI [] (sortR l) from rfl)
  clear hi hb hp
  generalize chkF l = cf at *
  by_cases h2 : 200 < l.length
  · have hcf := HCF.out
    rw [if_pos h2] at hcf
    subst hcf
    have hq : (200 : Int) < (l.length : Int) := by omega
    clear h2 HCF
    go_enter Tryd.func58, Tryd.ntmps58
    go_wp2
    go_ret
    exact ⟨rfl, Below.refl _ _⟩
  · have hq : ¬ (200 : Int) < (l.length : Int) := by omega
    have h200 : l.length ≤ 200 := by omega
    have HC2 := Lib.hid (HCF.out.trans (if_neg h2))
    clear HCF h2
    go_enter Tryd.func58, Tryd.ntmps58
    go_wp2
    go_loopw [18] (fun i wr => ∃ k : Nat, i = .int .i64 k ∧ k ≤ l.length ∧ Hid (fitsE (l.drop k) = fitsE l) ∧ Hid (Below w.heap.size w wr)) (fun i _ => l.length - (intOf i).toNat)
    case atStart => exact ⟨0, rfl, Nat.zero_le _, Lib.hid rfl, Lib.hid (Below.refl _ _)⟩
    case round =>
      obtain ⟨k, rfl, hk, HFI, HBL⟩ := hrel
      by_cases hkl : k < l.length
      · as_aux_lemma =>
        have hki : (k : Int) < (l.length : Int) := by omega
        have hdr : l.drop k = l[k] :: l.drop (k + 1) := List.drop_eq_getElem_cons hkl
        have HFN := Lib.hid (show fitsE l = if fitI l[k] ≠ 0 then fitI l[k] else fitsE (l.drop (k + 1)) by rw [← HFI.out, hdr]; rfl)
        obtain ⟨g, o, rfl, hg, hcc⟩ := HN.out wr HBL.out (by omega)
        obtain ⟨q0, q1, q2, q3, q4⟩ := itm_cells hcc hkl
        have HF := Lib.hid fun W => rfit13_any l[k] W (HB.out _ (List.getElem_mem hkl)) (HPZ.out _ (List.getElem_mem hkl))
        clear hcc hdr
        generalize l[k] = x at *
        obtain ⟨pa, ki, mo, ti, da⟩ := x
        simp only at q0 q1 q2 q3 q4
        have hba := (Below.refl wr.heap.size wr).alloc (Nat.le_refl _) (.cells #[.string pa, .int .i64 ki, .int .i64 mo, .int .i64 ti, .string da] 59)
        have HB2 := Lib.hid (HBL.out.trans (hba.mono HBL.out.size))
        have HK := Lib.hid (Blk.new wr 59 #[.string pa, .int .i64 ki, .int .i64 mo, .int .i64 ti, .string da])
        clear hba
        generalize fitI ⟨pa, ki, mo, ti, da⟩ = fv at *
        obtain ⟨wo, rfl⟩ : ∃ wo : World, wo = wr := ⟨_, rfl⟩
        go_upto_region 6 with fail
        generalize wo.alloc (.cells #[.string pa, .int .i64 ki, .int .i64 mo, .int .i64 ti, .string da] 59) = w2 at *
        have r0 : w2.cell? ⟨wo.heap.size, 0, none⟩ = some (.string pa) := HK.out.cell 0
        have r1 : w2.cell? ⟨wo.heap.size, 1, none⟩ = some (.int .i64 ki) := HK.out.cell 1
        have r2 : w2.cell? ⟨wo.heap.size, 2, none⟩ = some (.int .i64 mo) := HK.out.cell 2
        have r3 : w2.cell? ⟨wo.heap.size, 3, none⟩ = some (.int .i64 ti) := HK.out.cell 3
        have r4 : w2.cell? ⟨wo.heap.size, 4, none⟩ = some (.string da) := HK.out.cell 4
        go_wp2_with fail
        refine (HF.out _).mono ?_
        rintro e w3 ⟨rfl, hb3⟩
        have HB3 := Lib.hid (HB2.out.trans (hb3.mono HB2.out.size))
        clear hb3
        by_cases hf : fv = 0
        · have HF2 := Lib.hid (show fitsE (l.drop (k + 1)) = fitsE l by rw [HFN.out, if_neg (by omega)])
          subst hf
          go_wp2
          go_roundw
          case rel => exact ⟨k + 1, by go_num, by omega, HF2, HB3⟩
          case measure => simp [intOf]; omega
        · have HF2 := Lib.hid (show fitsE l = fv by rw [HFN.out, if_pos hf])
          have hne : ((fv : Int) != 0) = true := by rw [bne_iff_ne]; omega
          have hcf : cf = fv := by rw [HC2.out, HF2.out, if_pos hf]
          subst hcf
          go_wp2
          go_ret
          exact ⟨rfl, HB3.out⟩
      · as_aux_lemma =>
        obtain rfl : k = l.length := by omega
        have h0 := HFI.out
        rw [List.drop_length] at h0
        have HF0 := Lib.hid h0.symm
        clear h0 HFI
        have HC3 := Lib.hid (show cf = goI [] (sortR l) by rw [HC2.out, HF0.out]; rfl)
        have HALL := Lib.hid (fits_all l HF0.out)
        generalize wr = wo at *
        have HSO := Lib.hid fun W (hb : Below w.heap.size w W) => rsort_any A c l W (HN.out W hb) (fun x hx => Nat.le_trans (path_size (fit_path_ok (HALL.out x hx))) (by decide)) (by omega)
        have HSL := Lib.hid (sortR_len l)
        have HFY := Lib.hid (show ∀ x ∈ sortR l, fitI x = 0 from fun x hx => HALL.out x ((sortR_perm l).mem_iff.1 hx))
        clear HC2
        generalize sortR l = ys at *
        go_wp2_with fail
        refine (HSO.out _ HBL.out).mono ?_
        rintro e w2 ⟨A2, c2, rfl, hi2, hcap, hb2⟩
        have hyl := HSL.out
        rw [← hyl]
        rw [← hyl] at hcap h200
        have HI2 := Lib.hid hi2
        have HB2 := Lib.hid (HBL.out.trans (hb2.mono HBL.out.size))
        clear hi2 hb2 hyl HBL HSO
        go_wp2
        go_loopw [32] (fun i wz => ∃ k : Nat, i = .int .i64 k ∧ k ≤ ys.length ∧ Hid (goI (ys.take k) (ys.drop k) = goI [] ys) ∧ Hid (Below w2.heap.size w2 wz)) (fun i _ => ys.length - (intOf i).toNat)
        case atStart => exact ⟨0, rfl, Nat.zero_le _, Lib.hid rfl, Lib.hid (Below.refl _ _)⟩
        case round =>
          obtain ⟨k, rfl, hk, HGO, HBZ⟩ := hrel
          by_cases hkl : k < ys.length
          · as_aux_lemma =>
            have hki : (k : Int) < (ys.length : Int) := by omega
            have hk0 : (0 : Int) ≤ (k : Int) := by omega
            have hkc : (k : Int) ≤ (c2 : Int) := by omega
            have hdr : ys.drop k = ys[k] :: ys.drop (k + 1) := List.drop_eq_getElem_cons hkl
            have HTK := Lib.hid (List.take_succ_eq_append_getElem hkl)
            have hgo := HGO.out
            rw [hdr] at hgo
            obtain ⟨g, o, rfl, hg, hcc⟩ := HI2.out.below HBZ.out (by omega)
            obtain ⟨q0, q1, q2, q3, q4⟩ := itm_cells hcc hkl
            have hfx := HFY.out _ (List.getElem_mem hkl)
            have HST := Lib.hid (@goI_step (ys.take k) (ys.drop (k + 1)) ys[k])
            have HSP := Lib.hid (@goI_stop (ys.take k) (ys.drop (k + 1)) ys[k])
            have HSE := Lib.hid (show stepI (ys.take k) ys[k] = if lastIs (ys.take k) ys[k].path = true then 8 else if thereI (ys.take k) (parentP ys[k].path) = false then 7 else 0 from rfl)
            have hli : ∀ m (h : m < ys.length), k = m + 1 → lastIs (ys.take k) ys[k].path = (ys[m].path.toList == ys[k].path.toList) := fun m h e => by
              unfold lastIs
              have h1 : (ys.take k).getLast? = some ys[m] := by
                rw [e, List.take_succ_eq_append_getElem (by omega), List.getLast?_append]; rfl
              rw [h1, txt_eqb]
            have hl0 : k = 0 → lastIs (ys.take k) ys[k].path = false := fun e => by subst e; rfl
            have hpc : ∀ m (h : m < ys.length), k = m + 1 → wr.cell? ⟨g, o + m * 5, none⟩ = some (.string ys[m].path) := fun m h e => (itm_cells hcc h).1
            have HGO2 := Lib.hid hgo
            have hps : ys[k].path.size ≤ 200 := path_size (fit_path_ok hfx)
            have HLI := Lib.hid hli
            have HL0 := Lib.hid hl0
            have HPC := Lib.hid hpc
            clear hcc hdr hgo hfx HGO hli hl0 hpc
            generalize ys[k] = x at *
            obtain ⟨pa, ki, mo, ti, da⟩ := x
            simp only at q0 q1 q2 q3 q4 hps
            have hba := (Below.refl wr.heap.size wr).alloc (Nat.le_refl _) (.cells #[.string pa, .int .i64 ki, .int .i64 mo, .int .i64 ti, .string da] 59)
            have HB8 := Lib.hid (HBZ.out.trans (hba.mono HBZ.out.size))
            have HK := Lib.hid (Blk.new wr 59 #[.string pa, .int .i64 ki, .int .i64 mo, .int .i64 ti, .string da])
            have HPC8 := Lib.hid fun m (h : m < ys.length) (e : k = m + 1) => (hba.cell (p := ⟨g, o + m * 5, none⟩) hg).trans (HPC.out m h e)
            clear hba
            have HPP := Lib.hid fun W => refparent_any pa W (by omega)
            obtain ⟨wo, rfl⟩ : ∃ wo : World, wo = wr := ⟨_, rfl⟩
            go_upto_region 14 with fail
            generalize wo.alloc (.cells #[.string pa, .int .i64 ki, .int .i64 mo, .int .i64 ti, .string da] 59) = w8 at *
            have r0 : w8.cell? ⟨wo.heap.size, 0, none⟩ = some (.string pa) := HK.out.cell 0
            cases hlv : lastIs (ys.take k) pa with
            | true =>
              obtain ⟨m, rfl⟩ : ∃ m, k = m + 1 := by
                cases k with
                | zero => have := HL0.out rfl; simp only at this; rw [this] at hlv; cases hlv
                | succ m => exact ⟨m, rfl⟩
              have h1 := HPC8.out m (by omega) rfl
              have h2 := HLI.out m (by omega) rfl
              simp only at h2
              rw [hlv] at h2
              have h9 : stepI (ys.take (m + 1)) ⟨pa, ki, mo, ti, da⟩ = 8 := HSE.out.trans (if_pos hlv)
              have hcf : cf = 8 := HC3.out.trans (HGO2.out.symm.trans ((HSP.out (by rw [h9]; decide)).trans h9))
              subst hcf
              have h3 := h2.symm
              have h4 : (0 : Int) < ((m + 1 : Nat) : Int) := by omega
              have h5 : IntKind.i64.wrap (((m + 1 : Nat) : Int) - 1) = (m : Int) := by rw [show (((m + 1 : Nat) : Int) - 1) = (m : Int) by omega]; exact IntWalk.i64_in _ (by omega)
              have h6 : (m : Int) < (ys.length : Int) := by omega
              have HBW := Lib.hid (HB2.out.trans (HB8.out.mono HB2.out.size))
              clear h2 h9 hlv HTK HST HSP HSE HLI HL0 HPC HPC8 HGO2
              go_quiet (fail)
              go_wp2
              go_ret
              exact ⟨rfl, HBW.out.trans ⟨rfl, rfl, rfl, Nat.le_refl _, fun _ _ => rfl⟩⟩
            | false =>
              have HS7 := Lib.hid (show stepI (ys.take k) ⟨pa, ki, mo, ti, da⟩ = if thereI (ys.take k) (parentP pa) = false then 7 else 0 from HSE.out.trans (if_neg (by rw [hlv]; simp)))
              have hcs : k = 0 ∨ ∃ m, ∃ h : m < ys.length, k = m + 1 ∧ (ys[m].path.toList == pa.toList) = false := by
                cases k with
                | zero => exact .inl rfl
                | succ m => exact .inr ⟨m, by omega, rfl, (HLI.out m (by omega) rfl).symm.trans hlv⟩
              have hpz : (parentP pa).size ≤ 200 := by
                unfold parentP
                rw [ByteArray.size_extract]
                omega
              clear HSE HLI HL0 HPC hlv
              go_cut [49] (fun v wc => v = .bool false ∧ Blk wc wo.heap.size 59 #[.string pa, .int .i64 ki, .int .i64 mo, .int .i64 ti, .string da] ∧ Below w2.heap.size w2 wc)
              case first =>
                rcases hcs with h1 | ⟨m, h1, h2, h3⟩
                · subst h1
                  go_quiet (fail)
                  go_wp2
                  go_meet
                  exact ⟨rfl, HK.out, HB8.out.trans ⟨rfl, rfl, rfl, Nat.le_refl _, fun _ _ => rfl⟩⟩
                · subst h2
                  have h0 := HPC8.out m (by omega) rfl
                  have h4 : (0 : Int) < ((m + 1 : Nat) : Int) := by omega
                  have h5 : IntKind.i64.wrap (((m + 1 : Nat) : Int) - 1) = (m : Int) := by rw [show (((m + 1 : Nat) : Int) - 1) = (m : Int) by omega]; exact IntWalk.i64_in _ (by omega)
                  have h6 : (m : Int) < (ys.length : Int) := by omega
                  go_quiet (fail)
                  go_wp2
                  go_meet
                  exact ⟨rfl, HK.out, HB8.out.trans ⟨rfl, rfl, rfl, Nat.le_refl _, fun _ _ => rfl⟩⟩
              case rest =>
                obtain ⟨rfl, hkc8, hbc8⟩ := hcut
                have HBC := Lib.hid hbc8
                have z0 : wc.cell? ⟨wo.heap.size, 0, none⟩ = some (.string pa) := hkc8.cell 0
                clear hkc8 hbc8 HPC8 HK HB8 hcs r0 q0 q1 q2 q3 q4 HBZ
                go_wp2_with fail
                refine (HPP.out _).mono ?_
                rintro e w5 ⟨rfl, rfl⟩
                clear HPP z0
                generalize parentP pa = pp at *
                have hpe := toList_isEmpty pp
                have ht0 : thereI (ys.take 0) pp = decide (pp.size = 0) := by simp [thereI]
                go_wp2
                go_loopw [10, 59] (fun tv jv wr => ∃ j : Nat, tv = .bool (thereI (ys.take j) pp) ∧ jv = .int .i64 j ∧ j ≤ k ∧ Hid (Below wc.heap.size wc wr)) (fun _ jv _ => k - (intOf jv).toNat)
                case atStart => exact ⟨0, by rw [ht0, ← dec_empty], rfl, Nat.zero_le _, Lib.hid (Below.refl _ _)⟩
                case round =>
                  obtain ⟨j, rfl, rfl, hj, HBJ⟩ := hrel
                  by_cases hjk : j < k
                  · have hji : (j : Int) < (k : Int) := by omega
                    obtain ⟨g', o', e1, hg', hcc⟩ := HI2.out.below (HBC.out.trans (HBJ.out.mono HBC.out.size)) (by omega)
                    injection e1 with e1
                    injection e1 with e1 e2
                    subst e1 e2
                    obtain ⟨p0, p1, p2, p3, p4⟩ := itm_cells hcc (show j < ys.length by omega)
                    clear hcc
                    have hts := there_take pp (show j < ys.length by omega)
                    generalize ys[j] = y at *
                    obtain ⟨ya, yb, yc, yd, ye⟩ := y
                    simp only at p0 p1 p2 p3 p4 hts
                    rw [← txt_eqb, show decide (yb = 1) = (yb == 1) by rw [Bool.eq_iff_iff, beq_iff_eq, decide_eq_true_eq]] at hts
                    have HTS := Lib.hid hts
                    clear hts
                    have hbx := (Below.refl wr.heap.size wr).alloc (Nat.le_refl _) (.cells #[.string ya, .int .i64 yb, .int .i64 yc, .int .i64 yd, .string ye] 59)
                    have HKY := Lib.hid (Blk.new wr 59 #[.string ya, .int .i64 yb, .int .i64 yc, .int .i64 yd, .string ye])
                    have HBK := Lib.hid (HBJ.out.trans (hbx.mono HBJ.out.size))
                    clear hbx
                    obtain ⟨wi, rfl⟩ : ∃ wi : World, wi = wr := ⟨_, rfl⟩
                    go_upto_region 21 with fail
                    generalize wi.alloc (.cells #[.string ya, .int .i64 yb, .int .i64 yc, .int .i64 yd, .string ye] 59) = w6 at *
                    have s0 : w6.cell? ⟨wi.heap.size, 0, none⟩ = some (.string ya) := HKY.out.cell 0
                    have s1 : w6.cell? ⟨wi.heap.size, 1, none⟩ = some (.int .i64 yb) := HKY.out.cell 1
                    generalize thereI (ys.take j) pp = fb at *
                    cases fb with
                    | true =>
                      have HR := Lib.hid (HTS.out.trans (Bool.true_or _))
                      clear HTS
                      go_wp2
                      go_roundw
                      case rel => exact ⟨j + 1, by rw [HR.out], by go_num, by omega, HBK⟩
                      case measure => simp [intOf]; omega
                    | false =>
                      have HR := Lib.hid (HTS.out.trans (Bool.false_or _))
                      clear HTS
                      cases hq : (ya.toList == pp.toList) with
                      | false =>
                        rw [hq, Bool.and_false] at HR
                        go_wp2
                        go_roundw
                        case rel => exact ⟨j + 1, by rw [HR.out], by go_num, by omega, HBK⟩
                        case measure => simp [intOf]; omega
                      | true =>
                        rw [hq, Bool.and_true] at HR
                        cases hq2 : (yb == 1)
                        all_goals
                          rw [hq2] at HR
                          go_wp2
                          go_roundw
                          case rel => exact ⟨j + 1, by rw [HR.out], by go_num, by omega, HBK⟩
                          case measure => simp [intOf]; omega
                  · obtain rfl : j = k := by omega
                    have hji : ¬ (j : Int) < (j : Int) := by omega
                    have HBX := Lib.hid (HBC.out.trans (HBJ.out.mono HBC.out.size))
                    cases hth : thereI (ys.take j) pp with
                    | false =>
                      have h9 : stepI (ys.take j) ⟨pa, ki, mo, ti, da⟩ = 7 := HS7.out.trans (if_pos hth)
                      have hcf : cf = 7 := HC3.out.trans (HGO2.out.symm.trans ((HSP.out (by rw [h9]; decide)).trans h9))
                      subst hcf
                      have HBW := Lib.hid (HB2.out.trans (HBX.out.mono HB2.out.size))
                      clear h9 hth
                      go_wp2
                      go_ret
                      exact ⟨rfl, HBW.out⟩
                    | true =>
                      have h9 : stepI (ys.take j) ⟨pa, ki, mo, ti, da⟩ = 0 := HS7.out.trans (if_neg (by rw [hth]; simp))
                      have HV := Lib.hid (show goI (ys.take (j + 1)) (ys.drop (j + 1)) = goI [] ys by rw [HTK.out, ← HST.out h9]; exact HGO2.out)
                      clear h9 hth
                      go_wp2
                      go_roundw
                      case rel => exact ⟨j + 1, by go_num, by omega, HV, HBX⟩
                      case measure => simp [intOf]; omega
          · as_aux_lemma =>
            obtain rfl : k = ys.length := by omega
            have hgo := HGO.out
            rw [List.drop_length] at hgo
            have hcf : cf = 0 := HC3.out.trans hgo.symm
            subst hcf
            have HBW := Lib.hid (HB2.out.trans (HBZ.out.mono HB2.out.size))
            go_wp2
            go_ret
            exact ⟨rfl, HBW.out⟩
end Go.Proofs.YtaoejgnfoecpfaaDoor
namespace Go.Proofs.YtaoejgnfoecpfaaDoor
set_option linter.unusedVariables false
set_option linter.unusedSimpArgs false
set_option linter.unusedSectionVars false
open Go.RowKit

theorem find_drop {l : List Itm} {k : Nat} {p : ByteArray} (h : k < l.length) : findI (l.drop k) p = if l[k].path = p then some l[k] else findI (l.drop (k + 1)) p := by
  rw [List.drop_eq_getElem_cons h]
  by_cases hx : l[k].path = p
  · rw [if_pos hx, ← hx, find_head]
  · rw [if_neg hx, find_tail hx]
/-- an item, or that of none -/
def itmV : Option Itm → Value
  | some x => .agg #[.string x.path, .int .i64 x.kind, .int .i64 x.mode, .int .i64 x.time, .string x.data]
  | none => .agg #[.string ⟨#[]⟩, .int .i64 0, .int .i64 0, .int .i64 0, .string ⟨#[]⟩]
set_option maxRecDepth 100000 in
set_option maxHeartbeats 3200000 in
theorem rfind_any (A : Option Addr) (c : Nat) (l : List Itm) (p : ByteArray) (w : World) (hi : ItmA w A l) (hl : l.length ≤ 9223372036854775807) :
    Calls Tryd.prog 93 #[.slice A l.length c, .string p] w fun e w' => e = .returned (.tuple #[itmV (findI l p), .bool (findI l p).isSome]) ∧ Below w.heap.size w w' := by
  have HN := Lib.hid fun W (hb : Below w.heap.size w W) => hi.below hb
  have HB0 := Lib.hid ((Below.refl w.heap.size w).alloc (Nat.le_refl _) (.cells #[.string ⟨#[]⟩, .int .i64 0, .int .i64 0, .int .i64 0, .string ⟨#[]⟩] 59))
  have HK0 := Lib.hid (Blk.new w 59 #[.string ⟨#[]⟩, .int .i64 0, .int .i64 0, .int .i64 0, .string ⟨#[]⟩])
  clear hi
  go_enter Tryd.func93, Tryd.ntmps93
  go_wp2
  go_loopw [10] (fun i wr => ∃ k : Nat, i = .int .i64 k ∧ k ≤ l.length ∧ Hid (findI (l.drop k) p = findI l p) ∧ Hid (Blk wr w.heap.size 59 #[.string ⟨#[]⟩, .int .i64 0, .int .i64 0, .int .i64 0, .string ⟨#[]⟩]) ∧ Hid (Below w.heap.size w wr)) (fun i _ => l.length - (intOf i).toNat)
  case atStart => exact ⟨0, rfl, Nat.zero_le _, Lib.hid rfl, HK0, HB0⟩
  case round =>
    clear HB0 HK0
    obtain ⟨k, rfl, hk, HF, HK, HB⟩ := hrel
    by_cases hkl : k < l.length
    · have hki : (k : Int) < (l.length : Int) := by omega
      obtain ⟨g, o, rfl, hg, hcc⟩ := HN.out wr HB.out (by omega)
      obtain ⟨q0, q1, q2, q3, q4⟩ := itm_cells hcc hkl
      clear hcc
      have HD := Lib.hid (find_drop (p := p) hkl)
      generalize l[k] = x at *
      obtain ⟨pa, ki, mo, ti, da⟩ := x
      simp only at q0 q1 q2 q3 q4
      have hx := txt_eqb pa p
      have hba := (Below.refl wr.heap.size wr).alloc (Nat.le_refl _) (.cells #[.string pa, .int .i64 ki, .int .i64 mo, .int .i64 ti, .string da] 59)
      have HB2 := Lib.hid (HB.out.trans (hba.mono HB.out.size))
      have HKX := Lib.hid (Blk.new wr 59 #[.string pa, .int .i64 ki, .int .i64 mo, .int .i64 ti, .string da])
      have HK2 := Lib.hid (HK.out.below hba HK.out.lt)
      clear hba HK HB
      obtain ⟨wo, rfl⟩ : ∃ wo : World, wo = wr := ⟨_, rfl⟩
      go_upto_region 4 with fail
      generalize wo.alloc (.cells #[.string pa, .int .i64 ki, .int .i64 mo, .int .i64 ti, .string da] 59) = w2 at *
      have r0 : w2.cell? ⟨wo.heap.size, 0, none⟩ = some (.string pa) := HKX.out.cell 0
      have r1 : w2.cell? ⟨wo.heap.size, 1, none⟩ = some (.int .i64 ki) := HKX.out.cell 1
      have r2 : w2.cell? ⟨wo.heap.size, 2, none⟩ = some (.int .i64 mo) := HKX.out.cell 2
      have r3 : w2.cell? ⟨wo.heap.size, 3, none⟩ = some (.int .i64 ti) := HKX.out.cell 3
      have r4 : w2.cell? ⟨wo.heap.size, 4, none⟩ = some (.string da) := HKX.out.cell 4
      by_cases hpa : pa = p
      · rw [decide_eq_true hpa] at hx
        have HV := Lib.hid (show findI l p = some ⟨pa, ki, mo, ti, da⟩ by rw [← HF.out, HD.out, if_pos hpa])
        clear hpa
        have b0 : w2.cell? ⟨w.heap.size, 0, none⟩ = some (.string ⟨#[]⟩) := HK2.out.cell 0
        have f0 : w2.frozen? ⟨w.heap.size, 0, none⟩ = false := HK2.out.frozen 0
        have b1 : w2.cell? ⟨w.heap.size, 1, none⟩ = some (.int .i64 0) := HK2.out.cell 1
        have f1 : w2.frozen? ⟨w.heap.size, 1, none⟩ = false := HK2.out.frozen 1
        have b2 : w2.cell? ⟨w.heap.size, 2, none⟩ = some (.int .i64 0) := HK2.out.cell 2
        have f2 : w2.frozen? ⟨w.heap.size, 2, none⟩ = false := HK2.out.frozen 2
        have b3 : w2.cell? ⟨w.heap.size, 3, none⟩ = some (.int .i64 0) := HK2.out.cell 3
        have f3 : w2.frozen? ⟨w.heap.size, 3, none⟩ = false := HK2.out.frozen 3
        have b4 : w2.cell? ⟨w.heap.size, 4, none⟩ = some (.string ⟨#[]⟩) := HK2.out.cell 4
        have f4 : w2.frozen? ⟨w.heap.size, 4, none⟩ = false := HK2.out.frozen 4
        have HBW := Lib.hid (((((HB2.out.setCell (p := ⟨w.heap.size, 0, none⟩) (Nat.le_refl _) (.string pa)).setCell (p := ⟨w.heap.size, 1, none⟩) (Nat.le_refl _) (.int .i64 ki)).setCell (p := ⟨w.heap.size, 2, none⟩) (Nat.le_refl _) (.int .i64 mo)).setCell (p := ⟨w.heap.size, 3, none⟩) (Nat.le_refl _) (.int .i64 ti)).setCell (p := ⟨w.heap.size, 4, none⟩) (Nat.le_refl _) (.string da))
        go_wp2
        refine bodyPost_ret (v := .tuple #[.agg #[.string pa, .int .i64 ki, .int .i64 mo, .int .i64 ti, .string da], .bool true]) (by simp [results, Tryd.results93, go_sem, b0, b1, b2, b3, b4]) rfl ⟨?_, HBW.out⟩
        rw [HV.out]; rfl
      · rw [decide_eq_false hpa] at hx
        have HV := Lib.hid (show findI (l.drop (k + 1)) p = findI l p by rw [← HF.out, HD.out, if_neg hpa])
        go_wp2
        go_roundw
        case rel => exact ⟨k + 1, by go_num, by omega, HV, HK2, HB2⟩
        case measure => simp [intOf]; omega
    · obtain rfl : k = l.length := by omega
      have hki : ¬ (l.length : Int) < (l.length : Int) := by omega
      have hn := HF.out
      rw [List.drop_length] at hn
      have b0 : wr.cell? ⟨w.heap.size, 0, none⟩ = some (.string ⟨#[]⟩) := HK.out.cell 0
      have f0 : wr.frozen? ⟨w.heap.size, 0, none⟩ = false := HK.out.frozen 0
      have b1 : wr.cell? ⟨w.heap.size, 1, none⟩ = some (.int .i64 0) := HK.out.cell 1
      have f1 : wr.frozen? ⟨w.heap.size, 1, none⟩ = false := HK.out.frozen 1
      have b2 : wr.cell? ⟨w.heap.size, 2, none⟩ = some (.int .i64 0) := HK.out.cell 2
      have f2 : wr.frozen? ⟨w.heap.size, 2, none⟩ = false := HK.out.frozen 2
      have b3 : wr.cell? ⟨w.heap.size, 3, none⟩ = some (.int .i64 0) := HK.out.cell 3
      have f3 : wr.frozen? ⟨w.heap.size, 3, none⟩ = false := HK.out.frozen 3
      have b4 : wr.cell? ⟨w.heap.size, 4, none⟩ = some (.string ⟨#[]⟩) := HK.out.cell 4
      have f4 : wr.frozen? ⟨w.heap.size, 4, none⟩ = false := HK.out.frozen 4
      have HBW := Lib.hid (((((HB.out.setCell (p := ⟨w.heap.size, 0, none⟩) (Nat.le_refl _) (.string ⟨#[]⟩)).setCell (p := ⟨w.heap.size, 1, none⟩) (Nat.le_refl _) (.int .i64 0)).setCell (p := ⟨w.heap.size, 2, none⟩) (Nat.le_refl _) (.int .i64 0)).setCell (p := ⟨w.heap.size, 3, none⟩) (Nat.le_refl _) (.int .i64 0)).setCell (p := ⟨w.heap.size, 4, none⟩) (Nat.le_refl _) (.string ⟨#[]⟩))
      go_wp2
      refine bodyPost_ret (v := .tuple #[.agg #[.string ⟨#[]⟩, .int .i64 0, .int .i64 0, .int .i64 0, .string ⟨#[]⟩], .bool false]) (by simp [results, Tryd.results93, go_sem, b0, b1, b2, b3, b4]) rfl ⟨?_, HBW.out⟩
      rw [← hn]; rfl
end Go.Proofs.YtaoejgnfoecpfaaDoor
namespace Go.Proofs.YtaoejgnfoecpfaaDoor
set_option linter.unusedVariables false
set_option linter.unusedSimpArgs false
set_option linter.unusedSectionVars false
open Go.RowKit

theorem infoChgR : (Tryd.prog.info? 96).map (fun i => (i.zero, i.size, i.bytes)) = some (some (.agg #[.string ⟨#[]⟩, .int .i64 0]), 2, 24) := by kernel_rfl
theorem own_emptyC {w : World} {B : Nat} (hB : B ≤ w.heap.size) : (w.alloc (.cells #[] 96)).ownsRow B 96 2 (.slice (some ⟨w.heap.size, 0, none⟩) 0 0) 0 (chgsC []) := World.ownsRow_lit (e := 96) (size := 2) (base := B) w #[] 0 hB (by decide) rfl
theorem rdif_step {fr tt S D : List Itm} {acc : List (ByteArray × Nat)} {R : List (ByteArray × Nat)} {k : Nat} (h : acc ++ rdif fr tt (S.take k) (S.drop k) = R) (hk : k < S.length) : (lastIs (S.take k) S[k].path = true → acc ++ rdif fr tt (S.take (k + 1)) (S.drop (k + 1)) = R) ∧
    (lastIs (S.take k) S[k].path = false → (acc ++ tellD fr tt S[k].path) ++ rdif fr tt (S.take (k + 1)) (S.drop (k + 1)) = R) := by
  rw [List.drop_eq_getElem_cons hk] at h
  rw [List.take_succ_eq_append_getElem hk]
  refine ⟨fun hl => ?_, fun hl => ?_⟩
  · rw [rdif_skip hl] at h; exact h
  · rw [rdif_take hl, ← List.append_assoc] at h; exact h
theorem last_get {ys : List Itm} {m : Nat} (h : m + 1 < ys.length) : lastIs (ys.take (m + 1)) ys[m + 1].path = (ys[m].path.toList == ys[m + 1].path.toList) := by
  unfold lastIs
  have h1 : (ys.take (m + 1)).getLast? = some ys[m] := by
    rw [List.take_succ_eq_append_getElem (by omega), List.getLast?_append]; rfl
  rw [h1, txt_eqb]
set_option maxRecDepth 100000 in
set_option maxHeartbeats 12800000 in
theorem rdiff_any (A B : Option Addr) (ca cb : Nat) (la lb : List Itm) (w : World) (hi : ItmA w A la) (hj : ItmA w B lb) (ha : A = none → ca = 0) (hb : B = none → cb = 0) (hla : la.length ≤ 200) (hlb : lb.length ≤ 200) (hp : ∀ x ∈ la ++ lb, x.path.size ≤ 1000000) :
    Calls Tryd.prog 59 #[.slice A la.length ca, .slice B lb.length cb] w fun e w' => ∃ C d, e = .returned (.slice C (rdif la lb [] (sortR (la ++ lb))).length d) ∧ w'.ownsRow w.heap.size 96 2 (.slice C (rdif la lb [] (sortR (la ++ lb))).length d) (rdif la lb [] (sortR (la ++ lb))).length (chgsC (rdif la lb [] (sortR (la ++ lb)))) ∧ Below w.heap.size w w' := by
  have HIA := Lib.hid fun W (hb : Below w.heap.size w W) => hi.below hb
  have HIB := Lib.hid fun W (hb : Below w.heap.size w W) => hj.below hb
  have HPZ := Lib.hid hp
  have HB0 := Lib.hid ((Below.refl w.heap.size w).alloc (Nat.le_refl _) (.cells #[] 59))
  have HO0 := Lib.hid (own_emptyI (w := w) (B := w.heap.size) (Nat.le_refl _))
  clear hi hj hp
  go_enter Tryd.func59, Tryd.ntmps59
  go_wp2_with (first
    | (at_builtin; refine wpList_appItems rfl _ _ rfl w.heap.size _ 0 [] rfl HO0.out A ca la rfl (HIA.out _ HB0.out) ha (by omega) HB0.out.size ?_; intro A' c' w1 ho1 hg1 hn1
       have HO1 := Lib.hid ho1
       have HB1 := Lib.hid (HB0.out.grown hg1 HB0.out.size fun j hj => (HO0.out.lt j hj).1)
       clear ho1 hg1 hn1 HO0 HB0
       rw [Nat.zero_add]
       rw [Nat.zero_add, List.nil_append] at HO1)
    | (at_builtin; refine wpList_appItems rfl _ _ rfl w.heap.size _ la.length la rfl HO1.out B cb lb rfl (HIB.out _ HB1.out) hb (by omega) HB1.out.size ?_; intro A2 c2 w2 ho2 hg2 hn2
       have HO2 := Lib.hid ho2
       have HB2 := Lib.hid (HB1.out.grown hg2 HB1.out.size fun j hj => (HO1.out.lt j hj).1)
       clear ho2 hg2 hn2 HO1 HB1))
  have hll : (la ++ lb).length = la.length + lb.length := List.length_append
  have hs3 := rsort_any A2 c2 (la ++ lb) w2 (own_itmA HO2.out hll.symm) HPZ.out (by omega)
  have HSM := Lib.hid (show ∀ x ∈ sortR (la ++ lb), x ∈ la ++ lb from fun x hx => (sortR_perm _).mem_iff.1 hx)
  have hsl := sortR_len (la ++ lb)
  generalize hSd : sortR (la ++ lb) = S at *
  have HSD := Lib.hid hSd
  clear hSd
  rw [hll] at hs3 hsl
  refine hs3.mono ?_
  rintro e w3 ⟨A3, c3, rfl, hi3, hc3, hb3⟩
  have HI3 := Lib.hid hi3
  have HB3 := Lib.hid (HB2.out.trans (hb3.mono HB2.out.size))
  clear hs3 hi3 hc3 hb3 HO2 HB2 hll
  rw [← hsl]
  have hSl : S.length ≤ 400 := by omega
  clear hsl
  have HB4 := Lib.hid ((Below.refl w3.heap.size w3).alloc (Nat.le_refl _) (.cells #[] 96))
  have HO4 := Lib.hid (own_emptyC (w := w3) (B := w3.heap.size) (Nat.le_refl _))
  go_wp2
  go_loopw [6, 22] (fun ov iv wr => ∃ (k : Nat) (C : Option Addr) (d : Nat) (acc : List (ByteArray × Nat)), ov = .slice C acc.length d ∧ iv = .int .i64 (k : Nat) ∧ k ≤ S.length ∧ acc.length ≤ k ∧ Hid (acc ++ rdif la lb (S.take k) (S.drop k) = rdif la lb [] S) ∧ Hid (wr.ownsRow w3.heap.size 96 2 (.slice C acc.length d) acc.length (chgsC acc)) ∧ Hid (Below w3.heap.size w3 wr)) (fun _ iv _ => S.length - (intOf iv).toNat)
  case atStart => exact ⟨0, _, 0, [], rfl, rfl, Nat.zero_le _, Nat.zero_le _, Lib.hid rfl, HO4, HB4⟩
  case round =>
    clear HB4 HO4
    obtain ⟨k, C, d, acc, rfl, rfl, hk, hak, HAC, HO, HB⟩ := hrel
    by_cases hkl : k < S.length
    · have hki : (k : Int) < (S.length : Int) := by omega
      have HST := Lib.hid (rdif_step (D := []) HAC.out hkl)
      obtain ⟨g, o, e1, hg, hcc⟩ := HI3.out.below HB.out (by omega)
      subst e1
      obtain ⟨q0, q1, q2, q3, q4⟩ := itm_cells hcc hkl
      have HLG := Lib.hid fun m (h : m + 1 < S.length) => last_get h
      have HPC := Lib.hid fun m (h : m < S.length) => (itm_cells hcc h).1
      have hpz := HPZ.out _ (HSM.out _ (List.getElem_mem hkl))
      have hl0 : k = 0 → lastIs (S.take k) S[k].path = false := fun e => by subst e; rfl
      have hlm : ∀ m (h : m < S.length), k = m + 1 → lastIs (S.take k) S[k].path = (S[m].path.toList == S[k].path.toList) := fun m h e => by subst e; exact HLG.out m hkl
      have HL0 := Lib.hid hl0
      have HLM := Lib.hid hlm
      clear hcc HLG hl0 hlm HAC
      generalize S[k] = x at *
      obtain ⟨pa, ki, mo, ti, da⟩ := x
      simp only at q0 q1 q2 q3 q4 hpz
      have hba := (Below.refl wr.heap.size wr).alloc (Nat.le_refl _) (.cells #[.string pa, .int .i64 ki, .int .i64 mo, .int .i64 ti, .string da] 59)
      have HB5 := Lib.hid (HB.out.trans (hba.mono HB.out.size))
      have HK := Lib.hid (Blk.new wr 59 #[.string pa, .int .i64 ki, .int .i64 mo, .int .i64 ti, .string da])
      have HPC5 := Lib.hid fun m (h : m < S.length) => (hba.cell (p := ⟨g, o + m * 5, none⟩) hg).trans (HPC.out m h)
      have HO5 := Lib.hid (own_atN HO.out fun i hi => hba.block i (HO.out.lt i hi).2)
      clear hba HPC HO HB
      obtain ⟨wo, rfl⟩ : ∃ wo : World, wo = wr := ⟨_, rfl⟩
      go_upto_region 6 with fail
      generalize wo.alloc (.cells #[.string pa, .int .i64 ki, .int .i64 mo, .int .i64 ti, .string da] 59) = w5 at *
      have r0 : w5.cell? ⟨wo.heap.size, 0, none⟩ = some (.string pa) := HK.out.cell 0
      cases hlv : lastIs (S.take k) pa with
      | true =>
        obtain ⟨m, rfl⟩ : ∃ m, k = m + 1 := by
          cases k with
          | zero => have := HL0.out rfl; simp only at this; rw [this] at hlv; cases hlv
          | succ m => exact ⟨m, rfl⟩
        have h1 := HPC5.out m (by omega)
        have h2 := HLM.out m (by omega) rfl
        simp only at h2
        rw [hlv] at h2
        have h3 := h2.symm
        have h4 : (0 : Int) < ((m + 1 : Nat) : Int) := by omega
        have h5 : IntKind.i64.wrap (((m + 1 : Nat) : Int) - 1) = (m : Int) := by rw [show (((m + 1 : Nat) : Int) - 1) = (m : Int) by omega]; exact IntWalk.i64_in _ (by omega)
        have h6 : (m : Int) < (S.length : Int) := by omega
        have HV := Lib.hid (HST.out.1 hlv)
        clear h2 hlv HST HL0 HLM HPC5
        go_quiet (fail)
        go_wp2
        go_roundw
        case rel => exact ⟨m + 1 + 1, C, d, acc, rfl, by go_num, by omega, by omega, HV, Lib.hid (own_atN HO5.out fun i hi => rfl), Lib.hid (HB5.out.trans ⟨rfl, rfl, rfl, Nat.le_refl _, fun _ _ => rfl⟩)⟩
        case measure => simp [intOf]; omega
      | false =>
        have HST2 := Lib.hid (HST.out.2 hlv)
        have hcs : k = 0 ∨ ∃ m, ∃ h : m < S.length, k = m + 1 ∧ (S[m].path.toList == pa.toList) = false := by
          cases k with
          | zero => exact .inl rfl
          | succ m => exact .inr ⟨m, by omega, rfl, (HLM.out m (by omega) rfl).symm.trans hlv⟩
        clear hlv HST HL0 HLM
        go_cut [39] (fun v wc => v = .bool false ∧ Blk wc wo.heap.size 59 #[.string pa, .int .i64 ki, .int .i64 mo, .int .i64 ti, .string da] ∧ wc.ownsRow w3.heap.size 96 2 (.slice C acc.length d) acc.length (chgsC acc) ∧ Below w3.heap.size w3 wc)
        case first =>
          rcases hcs with h1 | ⟨m, h1, h2, h3⟩
          · subst h1
            go_quiet (fail)
            go_wp2
            go_meet
            exact ⟨rfl, HK.out, own_atN HO5.out fun i hi => rfl, HB5.out.trans ⟨rfl, rfl, rfl, Nat.le_refl _, fun _ _ => rfl⟩⟩
          · subst h2
            have h0 := HPC5.out m (by omega)
            have h4 : (0 : Int) < ((m + 1 : Nat) : Int) := by omega
            have h5 : IntKind.i64.wrap (((m + 1 : Nat) : Int) - 1) = (m : Int) := by rw [show (((m + 1 : Nat) : Int) - 1) = (m : Int) by omega]; exact IntWalk.i64_in _ (by omega)
            have h6 : (m : Int) < (S.length : Int) := by omega
            go_quiet (fail)
            go_wp2
            go_meet
            exact ⟨rfl, HK.out, own_atN HO5.out fun i hi => rfl, HB5.out.trans ⟨rfl, rfl, rfl, Nat.le_refl _, fun _ _ => rfl⟩⟩
        case rest =>
          obtain ⟨rfl, hkc, hoc, hbc⟩ := hcut
          have HKC := Lib.hid hkc
          have HOC := Lib.hid hoc
          have HBC := Lib.hid hbc
          have r1 : wc.cell? ⟨wo.heap.size, 0, none⟩ = some (.string pa) := hkc.cell 0
          have hf1 := rfind_any A ca la pa wc (HIA.out _ (HB3.out.trans (hbc.mono HB3.out.size))) (by omega)
          have hf2 := Lib.hid fun W (h : Below w.heap.size w W) => rfind_any B cb lb pa W (HIB.out _ h) (by omega)
          have htd : tellD la lb pa = match findI la pa, findI lb pa with | none, _ => [(pa, 1)] | some _, none => [(pa, 2)] | some a, some b => if a = b then [] else [(pa, 3)] := rfl
          have HTD := Lib.hid htd
          clear hkc hoc hbc hcs HPC5 HK HO5 HB5 r0 q0 q1 q2 q3 q4 htd
          generalize tellD la lb pa = td at *
          generalize findI la pa = fa at *
          generalize findI lb pa = fb at *
          cases fa with
          | none =>
            have hf1' : Calls Tryd.prog 93 #[.slice A la.length ca, .string pa] wc fun e w' => e = .returned (.tuple #[.agg #[.string ⟨#[]⟩, .int .i64 0, .int .i64 0, .int .i64 0, .string ⟨#[]⟩], .bool false]) ∧ Below wc.heap.size wc w' := hf1
            clear hf1
            go_wp2_with fail
            refine hf1'.mono ?_
            rintro e w6 ⟨rfl, hb6⟩
            have hba := (Below.refl w6.heap.size w6).alloc (Nat.le_refl _) (.cells #[.string ⟨#[]⟩, .int .i64 0, .int .i64 0, .int .i64 0, .string ⟨#[]⟩] 59)
            have hbb := hb6.trans (hba.mono hb6.size)
            have HK7 := Lib.hid (HKC.out.below hbb HKC.out.lt)
            have HA7 := Lib.hid (Blk.new w6 59 #[.string ⟨#[]⟩, .int .i64 0, .int .i64 0, .int .i64 0, .string ⟨#[]⟩])
            have HO7 := Lib.hid (own_atN HOC.out fun i hi => hbb.block i (HOC.out.lt i hi).2)
            have HB7 := Lib.hid (HBC.out.trans (hbb.mono HBC.out.size))
            clear hba hbb hb6 hf1' r1 HKC HOC HBC
            go_upto_region 8 with fail
            generalize w6.alloc (.cells #[.string ⟨#[]⟩, .int .i64 0, .int .i64 0, .int .i64 0, .string ⟨#[]⟩] 59) = w7 at *
            have r1 : w7.cell? ⟨wo.heap.size, 0, none⟩ = some (.string pa) := HK7.out.cell 0
            have hf3 := hf2.out _ (HB3.out.trans (HB7.out.mono HB3.out.size))
            have htd : td = [(pa, 1)] := HTD.out
            clear HTD
            cases fb with
            | none =>
              have hf3' : Calls Tryd.prog 93 #[.slice B lb.length cb, .string pa] w7 fun e w' => e = .returned (.tuple #[.agg #[.string ⟨#[]⟩, .int .i64 0, .int .i64 0, .int .i64 0, .string ⟨#[]⟩], .bool false]) ∧ Below w7.heap.size w7 w' := hf3
              clear hf3
              go_wp2_with fail
              refine hf3'.mono ?_
              rintro e w8 ⟨rfl, hb8⟩
              have hba := (Below.refl w8.heap.size w8).alloc (Nat.le_refl _) (.cells #[.string ⟨#[]⟩, .int .i64 0, .int .i64 0, .int .i64 0, .string ⟨#[]⟩] 59)
              have hbb := hb8.trans (hba.mono hb8.size)
              have HK9 := Lib.hid (HK7.out.below hbb HK7.out.lt)
              have HA9 := Lib.hid (HA7.out.below hbb HA7.out.lt)
              have HE9 := Lib.hid (Blk.new w8 59 #[.string ⟨#[]⟩, .int .i64 0, .int .i64 0, .int .i64 0, .string ⟨#[]⟩])
              have HO9 := Lib.hid (own_atN HO7.out fun i hi => hbb.block i (HO7.out.lt i hi).2)
              have HB9 := Lib.hid (HB7.out.trans (hbb.mono HB7.out.size))
              clear hba hbb hb8 hf3' r1 HK7 HA7 HO7 HB7
              go_upto_region 9 with fail
              generalize w8.alloc (.cells #[.string ⟨#[]⟩, .int .i64 0, .int .i64 0, .int .i64 0, .string ⟨#[]⟩] 59) = w9 at *
              have r1 : w9.cell? ⟨wo.heap.size, 0, none⟩ = some (.string pa) := HK9.out.cell 0
              have HV := HST2
              rw [htd] at HV
              clear HST2 htd
              go_wp2_with (at_builtin; refine wpList_app1s rfl _ _ 93 rfl w3.heap.size 96 Tryd.underlying93 infoChgR rfl (by decide) _ _ _ rfl HO9.out _ (by simp) rfl rfl (by simp [Value.oneCell']) (by omega) (by omega) HB9.out.size ?_; intro gx capx wx hox hgx hbx hlx
                           have HOX := Lib.hid (show wx.ownsRow w3.heap.size 96 2 (.slice (some ⟨gx, 0, none⟩) (acc.length + 1) capx) (acc.length + 1) (chgsC (acc ++ [(pa, 1)])) by
                             rw [chgsC_add]
                             exact hox)
                           have HBX := Lib.hid (HB9.out.grown hgx HB9.out.size fun j hj => (HO9.out.lt j hj).1)
                           clear hox hgx hbx hlx)
              go_wp2
              go_roundw
              case rel => exact ⟨k + 1, some ⟨gx, 0, none⟩, capx, acc ++ [(pa, 1)], by simp, by go_num, by omega, by simp; omega, HV, Lib.hid (by simpa using HOX.out), HBX⟩
              case measure => simp [intOf]; omega
            | some b =>
              obtain ⟨b0, b1, b2, b3, b4⟩ := b
              have hf3' : Calls Tryd.prog 93 #[.slice B lb.length cb, .string pa] w7 fun e w' => e = .returned (.tuple #[.agg #[.string b0, .int .i64 b1, .int .i64 b2, .int .i64 b3, .string b4], .bool true]) ∧ Below w7.heap.size w7 w' := hf3
              clear hf3
              go_wp2_with fail
              refine hf3'.mono ?_
              rintro e w8 ⟨rfl, hb8⟩
              have hba := (Below.refl w8.heap.size w8).alloc (Nat.le_refl _) (.cells #[.string b0, .int .i64 b1, .int .i64 b2, .int .i64 b3, .string b4] 59)
              have hbb := hb8.trans (hba.mono hb8.size)
              have HK9 := Lib.hid (HK7.out.below hbb HK7.out.lt)
              have HA9 := Lib.hid (HA7.out.below hbb HA7.out.lt)
              have HE9 := Lib.hid (Blk.new w8 59 #[.string b0, .int .i64 b1, .int .i64 b2, .int .i64 b3, .string b4])
              have HO9 := Lib.hid (own_atN HO7.out fun i hi => hbb.block i (HO7.out.lt i hi).2)
              have HB9 := Lib.hid (HB7.out.trans (hbb.mono HB7.out.size))
              clear hba hbb hb8 hf3' r1 HK7 HA7 HO7 HB7
              go_upto_region 9 with fail
              generalize w8.alloc (.cells #[.string b0, .int .i64 b1, .int .i64 b2, .int .i64 b3, .string b4] 59) = w9 at *
              have r1 : w9.cell? ⟨wo.heap.size, 0, none⟩ = some (.string pa) := HK9.out.cell 0
              have HV := HST2
              rw [htd] at HV
              clear HST2 htd
              go_wp2_with (at_builtin; refine wpList_app1s rfl _ _ 93 rfl w3.heap.size 96 Tryd.underlying93 infoChgR rfl (by decide) _ _ _ rfl HO9.out _ (by simp) rfl rfl (by simp [Value.oneCell']) (by omega) (by omega) HB9.out.size ?_; intro gx capx wx hox hgx hbx hlx
                           have HOX := Lib.hid (show wx.ownsRow w3.heap.size 96 2 (.slice (some ⟨gx, 0, none⟩) (acc.length + 1) capx) (acc.length + 1) (chgsC (acc ++ [(pa, 1)])) by
                             rw [chgsC_add]
                             exact hox)
                           have HBX := Lib.hid (HB9.out.grown hgx HB9.out.size fun j hj => (HO9.out.lt j hj).1)
                           clear hox hgx hbx hlx)
              go_wp2
              go_roundw
              case rel => exact ⟨k + 1, some ⟨gx, 0, none⟩, capx, acc ++ [(pa, 1)], by simp, by go_num, by omega, by simp; omega, HV, Lib.hid (by simpa using HOX.out), HBX⟩
              case measure => simp [intOf]; omega
          | some a =>
            obtain ⟨a0, a1, a2, a3, a4⟩ := a
            have hf1' : Calls Tryd.prog 93 #[.slice A la.length ca, .string pa] wc fun e w' => e = .returned (.tuple #[.agg #[.string a0, .int .i64 a1, .int .i64 a2, .int .i64 a3, .string a4], .bool true]) ∧ Below wc.heap.size wc w' := hf1
            clear hf1
            go_wp2_with fail
            refine hf1'.mono ?_
            rintro e w6 ⟨rfl, hb6⟩
            have hba := (Below.refl w6.heap.size w6).alloc (Nat.le_refl _) (.cells #[.string a0, .int .i64 a1, .int .i64 a2, .int .i64 a3, .string a4] 59)
            have hbb := hb6.trans (hba.mono hb6.size)
            have HK7 := Lib.hid (HKC.out.below hbb HKC.out.lt)
            have HA7 := Lib.hid (Blk.new w6 59 #[.string a0, .int .i64 a1, .int .i64 a2, .int .i64 a3, .string a4])
            have HO7 := Lib.hid (own_atN HOC.out fun i hi => hbb.block i (HOC.out.lt i hi).2)
            have HB7 := Lib.hid (HBC.out.trans (hbb.mono HBC.out.size))
            clear hba hbb hb6 hf1' r1 HKC HOC HBC
            go_upto_region 8 with fail
            generalize w6.alloc (.cells #[.string a0, .int .i64 a1, .int .i64 a2, .int .i64 a3, .string a4] 59) = w7 at *
            have r1 : w7.cell? ⟨wo.heap.size, 0, none⟩ = some (.string pa) := HK7.out.cell 0
            have hf3 := hf2.out _ (HB3.out.trans (HB7.out.mono HB3.out.size))
            cases fb with
            | none =>
              have htd : td = [(pa, 2)] := HTD.out
              clear HTD
              have hf3' : Calls Tryd.prog 93 #[.slice B lb.length cb, .string pa] w7 fun e w' => e = .returned (.tuple #[.agg #[.string ⟨#[]⟩, .int .i64 0, .int .i64 0, .int .i64 0, .string ⟨#[]⟩], .bool false]) ∧ Below w7.heap.size w7 w' := hf3
              clear hf3
              go_wp2_with fail
              refine hf3'.mono ?_
              rintro e w8 ⟨rfl, hb8⟩
              have hba := (Below.refl w8.heap.size w8).alloc (Nat.le_refl _) (.cells #[.string ⟨#[]⟩, .int .i64 0, .int .i64 0, .int .i64 0, .string ⟨#[]⟩] 59)
              have hbb := hb8.trans (hba.mono hb8.size)
              have HK9 := Lib.hid (HK7.out.below hbb HK7.out.lt)
              have HA9 := Lib.hid (HA7.out.below hbb HA7.out.lt)
              have HE9 := Lib.hid (Blk.new w8 59 #[.string ⟨#[]⟩, .int .i64 0, .int .i64 0, .int .i64 0, .string ⟨#[]⟩])
              have HO9 := Lib.hid (own_atN HO7.out fun i hi => hbb.block i (HO7.out.lt i hi).2)
              have HB9 := Lib.hid (HB7.out.trans (hbb.mono HB7.out.size))
              clear hba hbb hb8 hf3' r1 HK7 HA7 HO7 HB7
              go_upto_region 9 with fail
              generalize w8.alloc (.cells #[.string ⟨#[]⟩, .int .i64 0, .int .i64 0, .int .i64 0, .string ⟨#[]⟩] 59) = w9 at *
              have r1 : w9.cell? ⟨wo.heap.size, 0, none⟩ = some (.string pa) := HK9.out.cell 0
              have HV := HST2
              rw [htd] at HV
              clear HST2 htd
              go_wp2_with (at_builtin; refine wpList_app1s rfl _ _ 93 rfl w3.heap.size 96 Tryd.underlying93 infoChgR rfl (by decide) _ _ _ rfl HO9.out _ (by simp) rfl rfl (by simp [Value.oneCell']) (by omega) (by omega) HB9.out.size ?_; intro gx capx wx hox hgx hbx hlx
                           have HOX := Lib.hid (show wx.ownsRow w3.heap.size 96 2 (.slice (some ⟨gx, 0, none⟩) (acc.length + 1) capx) (acc.length + 1) (chgsC (acc ++ [(pa, 2)])) by
                             rw [chgsC_add]
                             exact hox)
                           have HBX := Lib.hid (HB9.out.grown hgx HB9.out.size fun j hj => (HO9.out.lt j hj).1)
                           clear hox hgx hbx hlx)
              go_wp2
              go_roundw
              case rel => exact ⟨k + 1, some ⟨gx, 0, none⟩, capx, acc ++ [(pa, 2)], by simp, by go_num, by omega, by simp; omega, HV, Lib.hid (by simpa using HOX.out), HBX⟩
              case measure => simp [intOf]; omega
            | some b =>
              obtain ⟨b0, b1, b2, b3, b4⟩ := b
              have htd0 : td = if (⟨a0, a1, a2, a3, a4⟩ : Itm) = ⟨b0, b1, b2, b3, b4⟩ then [] else [(pa, 3)] := HTD.out
              have HT0 := Lib.hid htd0
              clear HTD htd0
              have hf3' : Calls Tryd.prog 93 #[.slice B lb.length cb, .string pa] w7 fun e w' => e = .returned (.tuple #[.agg #[.string b0, .int .i64 b1, .int .i64 b2, .int .i64 b3, .string b4], .bool true]) ∧ Below w7.heap.size w7 w' := hf3
              clear hf3
              go_wp2_with fail
              refine hf3'.mono ?_
              rintro e w8 ⟨rfl, hb8⟩
              have hba := (Below.refl w8.heap.size w8).alloc (Nat.le_refl _) (.cells #[.string b0, .int .i64 b1, .int .i64 b2, .int .i64 b3, .string b4] 59)
              have hbb := hb8.trans (hba.mono hb8.size)
              have HK9 := Lib.hid (HK7.out.below hbb HK7.out.lt)
              have HA9 := Lib.hid (HA7.out.below hbb HA7.out.lt)
              have HE9 := Lib.hid (Blk.new w8 59 #[.string b0, .int .i64 b1, .int .i64 b2, .int .i64 b3, .string b4])
              have HO9 := Lib.hid (own_atN HO7.out fun i hi => hbb.block i (HO7.out.lt i hi).2)
              have HB9 := Lib.hid (HB7.out.trans (hbb.mono HB7.out.size))
              clear hba hbb hb8 hf3' r1 HK7 HA7 HO7 HB7
              go_upto_region 9 with fail
              generalize w8.alloc (.cells #[.string b0, .int .i64 b1, .int .i64 b2, .int .i64 b3, .string b4] 59) = w9 at *
              have r1 : w9.cell? ⟨wo.heap.size, 0, none⟩ = some (.string pa) := HK9.out.cell 0
              have s0 : w9.cell? ⟨w6.heap.size, 0, none⟩ = some (.string a0) := HA9.out.cell 0
              have s1 : w9.cell? ⟨w6.heap.size, 1, none⟩ = some (.int .i64 a1) := HA9.out.cell 1
              have s2 : w9.cell? ⟨w6.heap.size, 2, none⟩ = some (.int .i64 a2) := HA9.out.cell 2
              have s3 : w9.cell? ⟨w6.heap.size, 3, none⟩ = some (.int .i64 a3) := HA9.out.cell 3
              have s4 : w9.cell? ⟨w6.heap.size, 4, none⟩ = some (.string a4) := HA9.out.cell 4
              have t0 : w9.cell? ⟨w8.heap.size, 0, none⟩ = some (.string b0) := HE9.out.cell 0
              have t1 : w9.cell? ⟨w8.heap.size, 1, none⟩ = some (.int .i64 b1) := HE9.out.cell 1
              have t2 : w9.cell? ⟨w8.heap.size, 2, none⟩ = some (.int .i64 b2) := HE9.out.cell 2
              have t3 : w9.cell? ⟨w8.heap.size, 3, none⟩ = some (.int .i64 b3) := HE9.out.cell 3
              have t4 : w9.cell? ⟨w8.heap.size, 4, none⟩ = some (.string b4) := HE9.out.cell 4
              by_cases hab : (⟨a0, a1, a2, a3, a4⟩ : Itm) = ⟨b0, b1, b2, b3, b4⟩
              · have htd : td = [] := HT0.out.trans (if_pos hab)
                have hne : neI ⟨a0, a1, a2, a3, a4⟩ ⟨b0, b1, b2, b3, b4⟩ = false := by unfold neI; rw [decide_eq_true hab]; rfl
                have HV := HST2
                rw [htd, List.append_nil] at HV
                clear HST2 htd hab HT0
                go_wp2
                go_roundw
                case rel => exact ⟨k + 1, C, d, acc, rfl, by go_num, by omega, by omega, HV, HO9, HB9⟩
                case measure => simp [intOf]; omega
              · have htd : td = [(pa, 3)] := HT0.out.trans (if_neg hab)
                have hne : neI ⟨a0, a1, a2, a3, a4⟩ ⟨b0, b1, b2, b3, b4⟩ = true := by unfold neI; rw [decide_eq_false hab]; rfl
                clear hab HT0
                have HV := HST2
                rw [htd] at HV
                clear HST2 htd
                go_wp2_with (at_builtin; refine wpList_app1s rfl _ _ 93 rfl w3.heap.size 96 Tryd.underlying93 infoChgR rfl (by decide) _ _ _ rfl HO9.out _ (by simp) rfl rfl (by simp [Value.oneCell']) (by omega) (by omega) HB9.out.size ?_; intro gx capx wx hox hgx hbx hlx
                             have HOX := Lib.hid (show wx.ownsRow w3.heap.size 96 2 (.slice (some ⟨gx, 0, none⟩) (acc.length + 1) capx) (acc.length + 1) (chgsC (acc ++ [(pa, 3)])) by
                               rw [chgsC_add]
                               exact hox)
                             have HBX := Lib.hid (HB9.out.grown hgx HB9.out.size fun j hj => (HO9.out.lt j hj).1)
                             clear hox hgx hbx hlx)
                go_wp2
                go_roundw
                case rel => exact ⟨k + 1, some ⟨gx, 0, none⟩, capx, acc ++ [(pa, 3)], by simp, by go_num, by omega, by simp; omega, HV, Lib.hid (by simpa using HOX.out), HBX⟩
                case measure => simp [intOf]; omega
    · obtain rfl : k = S.length := by omega
      have hki : ¬ (S.length : Int) < (S.length : Int) := by omega
      have hn := HAC.out
      rw [List.drop_length] at hn
      have HV := Lib.hid (show acc = rdif la lb [] S by rw [← hn]; simp [rdif])
      have HBW := Lib.hid (HB3.out.trans (HB.out.mono HB3.out.size))
      have HOW := Lib.hid (own_baseW HO.out HB3.out.size)
      clear hn
      go_wp2
      go_ret
      rw [HSD.out, ← HV.out]
      exact ⟨C, d, rfl, HOW.out, HBW.out⟩
end Go.Proofs.YtaoejgnfoecpfaaDoor
namespace Go.Proofs.YtaoejgnfoecpfaaDoor
set_option linter.unusedVariables false
set_option linter.unusedSimpArgs false
set_option linter.unusedSectionVars false
open Go.RowKit

set_option maxRecDepth 100000 in
set_option maxHeartbeats 3200000 in
theorem wdiff_bad (A B : Option Addr) (ca cb : Nat) (la lb : List Itm) (w : World) (he : Env w) (hi : ItmA w A la) (hj : ItmA w B lb) (hb : ∀ x ∈ la, ItB x) (hb' : ∀ x ∈ lb, ItB x) (hl : la.length ≤ 200) (hl' : lb.length ≤ 200) (n : Nat) (hn : n = if chkF la = 0 then chkF lb else chkF la) (hn0 : n ≠ 0) :
    Calls Tryd.prog 57 #[.slice A la.length ca, .slice B lb.length cb] w fun e w' => e = .returned (.tuple #[.slice none 0 0, .int .i64 n]) ∧ Below w.heap.size w w' := by
  have HE := Lib.hid fun W (hb : Below w.heap.size w W) => he.below hb
  have HM := Lib.hid fun W (hb : Below w.heap.size w W) => hj.below hb
  have HW := Lib.hid (wwalk_any A ca la w he hi hb (by omega))
  have HB' := Lib.hid hb'
  clear he hi hj hb hb'
  go_enter Tryd.func57, Tryd.ntmps57
  go_wp2_with fail
  refine HW.out.mono ?_
  rintro e w1 ⟨m, hch, hb1, hcs⟩
  have hm := chkF_one hch
  rcases hcs with ⟨hm0, rfl⟩ | ⟨rfl, A1, c1, sa, rfl, hi1, hp1, hs1, hl1, hc1⟩
  · have hmn : m = n := by rw [hn, if_neg (by omega)]; exact hm
    subst hmn
    have hne : ((m : Int) != 0) = true := by rw [bne_iff_ne]; omega
    clear hn hch hm
    go_wp2
    refine bodyPost_ret (v := .tuple #[.slice none 0 0, .int .i64 m]) (by simp [results, Tryd.results57, go_sem]) rfl ⟨rfl, hb1⟩
  · have HB1 := Lib.hid hb1
    have hn2 : n = chkF lb := by rw [hn, if_pos hm.symm]
    have HW2 := Lib.hid (wwalk_any B cb lb w1 (HE.out _ HB1.out) (HM.out _ HB1.out) HB'.out (by omega))
    clear hch hb1 hi1 hp1 hs1 hl1 hn hm HW HM HE
    go_wp2_with fail
    refine HW2.out.mono ?_
    rintro e w2 ⟨m, hch, hb2, hcs⟩
    have hm := chkF_one hch
    rcases hcs with ⟨hm0, rfl⟩ | ⟨rfl, A2, c2, sb, rfl, hi2, hp2, hs2, hl2, hc2⟩
    · have hmn : m = n := by omega
      subst hmn
      have hne : ((m : Int) != 0) = true := by rw [bne_iff_ne]; omega
      have HB2 := Lib.hid (HB1.out.trans (hb2.mono HB1.out.size))
      clear hn2 hch hm hb2
      go_wp2
      refine bodyPost_ret (v := .tuple #[.slice none 0 0, .int .i64 m]) (by simp [results, Tryd.results57, go_sem]) rfl ⟨rfl, HB2.out⟩
    · exact absurd (hn2.trans hm.symm) hn0
set_option maxRecDepth 100000 in
@[go_sem high] theorem neqChg (p : ByteArray) (n : Int) (w : World) : (binOp .neq 96 (.agg #[.string p, .int .i64 n]) (.agg #[.string p, .int .i64 n])).run Tryd.prog w = .ok (.bool false) w := by
  have hK : Tryd.prog.stoodInHeld 96 = false := by kernel_rfl
  have hS : Tryd.prog.underlying 96 = some (.struct (Tryd.prog.fieldsOf 96)) := by kernel_rfl
  rw [run_neq_struct, show (10000 : Nat) = 9999 + 1 from rfl, run_equalIn_agg w 9999 96 _ _ hS hK]
  simp only [Program.fieldsOf, Tryd.underlying96]
  go_simp
end Go.Proofs.YtaoejgnfoecpfaaDoor
namespace Go.Proofs.YtaoejgnfoecpfaaDoor
set_option linter.unusedVariables false
set_option linter.unusedSimpArgs false
set_option linter.unusedSectionVars false
open Go.RowKit Go.Maps Go.ChangeShapes Go.WideShapes Go.ChangeAt Go.Deep

theorem bulk_mem {H : Type} {d : DataW H} {l : List (DataW H)} (h : d ∈ l) : Rows.uptoBulk d ≤ Rows.uptoBulkAll l := by
  induction l with
  | nil => cases h
  | cons x r ih =>
    simp only [Rows.uptoBulkAll]
    cases List.mem_cons.1 h with
    | inl e => subst e; omega
    | inr e => have := ih e; omega
section
variable {H : Type} {enc : TypeId × Value → H} {W : World} {base base' : Nat} {v : Value} {d : DataW H} {p : List MemPlace}
set_option maxRecDepth 100000 in
/-- a row of structs whose fields are of one cell each, out of one cell -/
theorem rows_bulk {α : Type} {t e : TypeId} {fs : Array Field} (dec : Array Value → α → Prop) (ht : Tryd.prog.underlying t = some (.slice e)) (he : Tryd.prog.underlying e = some (.struct fs))
    (hpos : 0 < fs.size) (hone : oneCellFields Tryd.prog fs = true) (hC : Tryd.prog.cellsOf e = fs.size) {fu : Nat} {y : DataW H × List MemPlace} (h : DataW.trod enc Tryd.prog W base' (fun _ => true) true fu t [v] = some y) (hwt : ∀ n ∈ y.1.weights Tryd.prog t, n ≤ reachBytes) {N : Nat} (hbk : Rows.uptoBulk y.1 ≤ N)
    (hdec : ∀ cs : Array Value, cs.size = fs.size → (∀ (j : Nat) (f : Field), fs[j]? = some f → ∃ u n y, cs[j]? = some u ∧ DataW.trod enc Tryd.prog W base' (fun _ => true) true n f.type [u] = some y ∧ (∀ n ∈ y.1.weights Tryd.prog f.type, n ≤ reachBytes) ∧ Rows.uptoBulk y.1 ≤ N) → ∃ x, dec cs x) :
    ∃ l, RowS W fs.size dec v l ∧ l.length * Tryd.prog.bytesOf e ≤ reachBytes := by
  obtain ⟨d, p⟩ := y
  rcases open_slice ht h with ⟨hcs, _⟩ | ⟨a, len0, cap0, m, n, D, Pl, hcs, hb, hl, hm, hmm, hx0, hi⟩
  · simp at hcs
    subst hcs
    exact ⟨[], ⟨none, 0, rfl, by simp, fun i h => absurd h (by simp)⟩, by simp⟩
  · simp at hcs
    subst hcs
    simp only [if_true] at hmm
    simp only [Prod.mk.injEq] at hx0
    have hx : ∀ i, i < len0 → ∃ x, ∃ b o cs, a = ⟨b, o, none⟩ ∧ b < W.heap.size ∧ dec cs x ∧ ∀ (j : Nat) u, cs[j]? = some u → W.cell? ⟨b, o + i * fs.size + j, none⟩ = some u := by
      intro i hil
      obtain ⟨cs', hc, ht'⟩ := hi i (by omega)
      rw [hC] at hc
      obtain ⟨ys, n', _, hyD, hlen, hyl, hfy⟩ := DataW.trod_struct he ht'
      simp only [Prod.mk.injEq] at hyD
      obtain ⟨_, hcl, hat⟩ := World.cells?_some hc
      have hsz : cs'.toArray.size = fs.size := by simpa using hcl
      have hfield : ∀ (j : Nat) (f : Field), fs[j]? = some f → ∃ u n y, cs'.toArray[j]? = some u ∧ DataW.trod enc Tryd.prog W base' (fun _ => true) true n f.type [u] = some y ∧ (∀ n ∈ y.1.weights Tryd.prog f.type, n ≤ reachBytes) ∧ Rows.uptoBulk y.1 ≤ N := by
        intro j f hj
        obtain ⟨ho, hk⟩ := hone_of hone j f hj
        have hjl : j < fs.size := (Array.getElem?_eq_some_iff.1 hj).1
        have hvj : cs'[j]? = some (cs'[j]'(by omega)) := List.getElem?_eq_getElem (by omega)
        have h1 := hfy j f hj
        rw [ho, hk] at h1
        have hone' : (cs'.drop j).take 1 = [cs'[j]'(by omega)] := by
          rw [List.drop_eq_getElem_cons (by omega)]
          rfl
        rw [hone'] at h1
        have hys : ys[j]? = some (ys[j]'(by omega)) := List.getElem?_eq_getElem (by omega)
        have hbj : Rows.uptoBulk (ys[j]'(by omega)).1 ≤ N := by
          have h2 : Rows.uptoBulk (D i) ≤ Rows.uptoBulkAll ((List.range len0).map D) := bulk_mem (List.mem_map.2 ⟨i, List.mem_range.2 hil, rfl⟩)
          rw [hx0.1] at hbk
          rw [hyD.1] at h2
          simp only [Rows.uptoBulk] at hbk h2
          refine Nat.le_trans (bulk_mem ?_) (Nat.le_trans (Nat.le_trans (Nat.le_add_right _ 1) h2) (Nat.le_trans (by omega) hbk))
          exact List.mem_map.2 ⟨_, List.getElem_mem (by omega), rfl⟩
        refine ⟨_, n', _, by simp, h1.trans hys, fun q hq => hwt q ?_, hbj⟩
        rw [hx0.1]
        have h2 : q ∈ (D i).weights Tryd.prog e := by
          rw [hyD.1]
          simp only [DataW.weights, he]
          exact DataW.weights_mem_each (j := j) (t := f.type) (by simp [hj]) (by simp [hys]) q hq
        have h3 : q ∈ DataW.weightsAll Tryd.prog e ((List.range len0).map D) := weightsAll_mem (List.mem_map.2 ⟨i, List.mem_range.2 hil, rfl⟩) h2
        simp only [DataW.weights, ht]
        exact List.mem_cons_of_mem _ (List.mem_append.2 (Or.inl h3))
      obtain ⟨x, hd⟩ := hdec cs'.toArray hsz hfield
      have hcell : ∀ (j : Nat) u, cs'.toArray[j]? = some u → W.cell? (a.add (i * fs.size + j)) = some u := by
        intro j u hj
        have hjl : j < fs.size := by
          have := (Array.getElem?_eq_some_iff.1 hj).1
          omega
        have := hat j hjl
        rw [← Go.Deep.add_add, this]
        simpa using hj
      have h00 := hcell 0 (cs'[0]'(by omega)) (by simp)
      have hsp : a.spot = none := by
        obtain ⟨c0, hc0, _⟩ := hi 0 (by omega)
        rw [hC] at hc0
        obtain ⟨_, hcl0, hat0⟩ := World.cells?_some hc0
        have h1 := hat0 0 (by omega)
        have h2 : c0[0]? = some (c0[0]'(by omega)) := List.getElem?_eq_getElem (by omega)
        rw [h2] at h1
        have h3 := World.cell?_spot h1
        unfold Addr.add at h3
        simpa using h3
      have hae : a = ⟨a.block, a.off, none⟩ := by
        obtain ⟨g, o, s⟩ := a
        simp only at hsp
        subst hsp; rfl
      have hlt : a.block < W.heap.size := by
        have := World.block_lt_of_cell? _ _ h00
        rw [addr_addx a hsp] at this
        exact this
      refine ⟨x, a.block, a.off, cs'.toArray, hae, hlt, hd, fun j u hj => ?_⟩
      have := hcell j u hj
      rw [addr_addx a hsp] at this
      rw [Nat.add_assoc]; exact this
    obtain ⟨l, hll, hlp⟩ := list_of hx
    have hby : len0 * Tryd.prog.bytesOf e ≤ reachBytes := by
      have h1 := hwt ((((List.range len0).map D).length + ((List.range (m - len0)).map fun j => D (len0 + j)).length) * Tryd.prog.bytesOf e) (by
        rw [hx0.1]
        simp only [DataW.weights, ht]
        exact List.mem_cons_self ..)
      refine Nat.le_trans (Nat.mul_le_mul_right _ ?_) h1
      simp
    refine ⟨l, ⟨some a, cap0, by rw [hll], by rw [hll]; simp only [maxLen] at hm; omega, fun i h => ?_⟩, by rw [hll]; exact hby⟩
    obtain ⟨b, o, cs, h1, h2, h3, h4⟩ := hlp i h
    exact ⟨b, o, cs, by rw [h1], h2, h3, h4⟩
theorem string_bulk {t : TypeId} {n : Nat} {y : DataW H × List MemPlace} (ht : Tryd.prog.underlying t = some .string) (h : DataW.trod enc Tryd.prog W base' (fun _ => true) true n t [v] = some y) {N : Nat} (hbk : Rows.uptoBulk y.1 ≤ N) : ∃ s : ByteArray, v = .string s ∧ s.size ≤ N := by
  obtain ⟨k, hcs, hy, hw⟩ := DataW.trod_string ht h
  simp at hcs
  subst hy
  refine ⟨k, hcs, ?_⟩
  simp only [Rows.uptoBulk] at hbk
  have h3 : k.data.toList.length = k.size := by rw [Array.length_toList]; rfl
  omega
set_option maxRecDepth 100000 in
theorem items_up (hv : Value.okWide Tryd.prog W .any base 49 v) (h : DataW.Trod enc Tryd.prog W base' (fun _ => true) true 49 v d p) (hwt : ∀ n ∈ d.weights Tryd.prog 49, n ≤ reachBytes) (hbk : Rows.uptoBulk d ≤ 1048576) : ∃ l, ItmP W v l ∧ ∀ x ∈ l, x.path.size ≤ 1048576 ∧ x.data.size ≤ 1048576 := by
  obtain ⟨fuel, hf⟩ := h
  rw [okWide_cells Tryd.underlying49 hv] at hf
  obtain ⟨A0, n0, c0, hv0, hnc0, hA0⟩ := slice_cap Tryd.underlying49 hf
  have : ∃ l, RowS W 5 (fun (cs : Array Value) (x : Itm) => cs = (itmC x).toArray ∧ ItB x ∧ x.path.size ≤ 1048576 ∧ x.data.size ≤ 1048576) v l ∧ l.length * Tryd.prog.bytesOf 59 ≤ reachBytes := by
    refine rows_bulk (fs := _) (fun (cs : Array Value) (x : Itm) => cs = (itmC x).toArray ∧ ItB x ∧ x.path.size ≤ 1048576 ∧ x.data.size ≤ 1048576) Tryd.underlying49 Tryd.underlying59 (by decide) (by kernel_rfl) (by kernel_rfl) hf hwt hbk fun cs hs hf => ?_
    obtain ⟨u0, n0, y0, h0, t0, g0⟩ := hf 0 _ rfl
    obtain ⟨u1, n1, y1, h1, t1, g1⟩ := hf 1 _ rfl
    obtain ⟨u2, n2, y2, h2, t2, g2⟩ := hf 2 _ rfl
    obtain ⟨u3, n3, y3, h3, t3, g3⟩ := hf 3 _ rfl
    obtain ⟨u4, n4, y4, h4, t4, g4⟩ := hf 4 _ rfl
    obtain ⟨pa, rfl, z0⟩ := string_sized Tryd.underlying9 t0 g0.1
    obtain ⟨ki, rfl, z1⟩ := int_trod Tryd.underlying3 t1
    obtain ⟨mo, rfl, z2⟩ := int_trod Tryd.underlying3 t2
    obtain ⟨ti, rfl, z3⟩ := int_trod Tryd.underlying3 t3
    obtain ⟨da, rfl, z4⟩ := string_sized Tryd.underlying9 t4 g4.1
    obtain ⟨pa', e0, y0⟩ := string_bulk Tryd.underlying9 t0 g0.2
    obtain ⟨da', e4, y4⟩ := string_bulk Tryd.underlying9 t4 g4.2
    injection e0 with e0
    injection e4 with e4
    subst e0 e4
    exact ⟨⟨pa, ki, mo, ti, da⟩, arr5 hs h0 h1 h2 h3 h4, ⟨z0, z4⟩, y0, y4⟩
  obtain ⟨l, ⟨A, c, rfl, hl, hp⟩, hz⟩ := this
  rw [show Tryd.prog.bytesOf 59 = 56 by kernel_rfl] at hz
  have hz := reach47 hz
  injection hv0 with e1 e2 e3
  subst e1 e2 e3
  refine ⟨l, ⟨_, _, rfl, fun hpos => ?_, by omega, fun x hx => ?_, ?_, ?_⟩, fun x hx => ?_⟩
  · obtain ⟨b, o, cs, rfl, hb, _, _⟩ := hp 0 hpos
    refine ⟨b, o, rfl, hb, fun i x hi j u hj => ?_⟩
    have hil : i < l.length := (List.getElem?_eq_some_iff.1 hi).1
    obtain ⟨b2, o2, cs2, e, _, ⟨hcs, _⟩, hcell2⟩ := hp i hil
    injection e with e
    injection e with e1 e2
    subst e1 e2
    obtain rfl : l[i] = x := (List.getElem?_eq_some_iff.1 hi).2
    exact hcell2 j u (by rw [hcs]; simpa using hj)
  · obtain ⟨i, hi, rfl⟩ := List.getElem_of_mem hx
    obtain ⟨_, _, _, _, _, ⟨_, hb, _⟩, _⟩ := hp i hi
    exact hb
  · exact hA0
  · exact hnc0
  · obtain ⟨i, hi, rfl⟩ := List.getElem_of_mem hx
    obtain ⟨_, _, _, _, _, ⟨_, _, hb⟩, _⟩ := hp i hi
    exact hb
end
end Go.Proofs.YtaoejgnfoecpfaaDoor
namespace Go.Proofs.YtaoejgnfoecpfaaDoor
set_option linter.unusedVariables false
set_option linter.unusedSimpArgs false
set_option linter.unusedSectionVars false
open Go.RowKit

theorem own_chgR {w : World} {B n c : Nat} {A : Option Addr} {D : List (ByteArray × Nat)} (h : w.ownsRow B 96 2 (.slice A n c) n (chgsC D)) (hn : n = D.length) {i : Nat} (hi : i < D.length) :
    ∃ g, A = some ⟨g, 0, none⟩ ∧ g < w.heap.size ∧ w.cell? ⟨g, i * 2, none⟩ = some (.string D[i].1) ∧ w.cell? ⟨g, i * 2 + 1, none⟩ = some (.int .i64 D[i].2) := by
  rcases h.2 with ⟨hv, h0⟩ | ⟨g, cap, cur, hv, _, hg, _, _, _, htake⟩
  · omega
  · simp only [Value.slice.injEq] at hv
    obtain ⟨rfl, _, rfl⟩ := hv
    obtain ⟨h1, h2⟩ := chgs_at hi
    rw [← htake, List.getElem?_take, if_pos (by omega)] at h1
    rw [← htake, List.getElem?_take, if_pos (by omega)] at h2
    refine ⟨g, rfl, (Array.getElem?_eq_some_iff.1 hg).1, ?_, ?_⟩
    · rw [cell_of_row w g (i * 2) cur _ _ hg]
      simpa using h1
    · rw [cell_of_row w g (i * 2 + 1) cur _ _ hg]
      simpa using h2
set_option maxRecDepth 100000 in
set_option maxHeartbeats 12800000 in
theorem wdiffs_all (A B : Option Addr) (ca cb : Nat) (la lb : List Itm) (w : World) (he : Env w) (hi : ItmA w A la) (hj : ItmA w B lb) (hb : ∀ x ∈ la, ItB x) (hb' : ∀ x ∈ lb, ItB x) (hn : A = none → ca = 0) (hn' : B = none → cb = 0) (hc : la.length ≤ ca) (hc' : lb.length ≤ cb) (hz : ∀ x ∈ la, x.path.size ≤ 1100000) (hz' : ∀ x ∈ lb, x.path.size ≤ 1100000) :
    Calls Tryd.prog 13 #[.slice A la.length ca, .slice B lb.length cb] w fun e w' => e = .returned (.bool true) ∧ Below w.heap.size w w' := by
  have HE := Lib.hid fun W (hb : Below w.heap.size w W) => he.below hb
  have HAW := Lib.hid fun W (h : Env W) => awake13_any W h
  have HF := Lib.hid (ifew_any A ca la 100 w hi hn hc (by decide))
  have HG := Lib.hid fun W (hw : Below w.heap.size w W) => ifew_any B cb lb 100 W (hj.below hw) hn' hc' (by decide)
  have HLB := Lib.hid (show ∀ x ∈ la.take 100, ItB x from fun x hx => hb x (List.mem_of_mem_take hx))
  have HMB := Lib.hid (show ∀ x ∈ lb.take 100, ItB x from fun x hx => hb' x (List.mem_of_mem_take hx))
  have HLZ := Lib.hid (show ∀ x ∈ la.take 100, x.path.size ≤ 1100000 from fun x hx => hz x (List.mem_of_mem_take hx))
  have HMZ := Lib.hid (show ∀ x ∈ lb.take 100, x.path.size ≤ 1100000 from fun x hx => hz' x (List.mem_of_mem_take hx))
  have hl100 : (la.take 100).length ≤ 100 := by rw [List.length_take]; omega
  have hm100 : (lb.take 100).length ≤ 100 := by rw [List.length_take]; omega
  clear he hi hj hb hb' hn hn' hc hc' hz hz'
  generalize la.take 100 = L at *
  generalize lb.take 100 = M at *
  go_enter Tryd.func13, Tryd.ntmps13
  go_wp2_with fail
  refine HF.out.mono ?_
  rintro e w1 ⟨A1, c1, rfl, ho1, hn1, hb1⟩
  have HB1 := Lib.hid hb1
  have HI1 := Lib.hid (own_itmA ho1 rfl)
  clear HF ho1 hb1
  go_wp2_with fail
  refine (HG.out _ HB1.out).mono ?_
  rintro e w2 ⟨A2, c2, rfl, ho2, hn2, hb2⟩
  have HB2 := Lib.hid (HB1.out.trans (hb2.mono HB1.out.size))
  have HI2 := Lib.hid (HI1.out.below hb2)
  have HJ2 := Lib.hid (own_itmA ho2 rfl)
  clear HG ho2 hb2 HI1 HB1
  by_cases hg : chkF L = 0 ∧ chkF M = 0
  · as_aux_lemma =>
    obtain ⟨hg1, hg2⟩ := hg
    have HTL := Lib.hid (chkF_zero.1 hg1)
    have HTM := Lib.hid (chkF_zero.1 hg2)
    go_wp2_with fail
    refine (wdiff_any A1 A2 c1 c2 L M w2 (HE.out _ HB2.out) HI2.out HJ2.out HLB.out HMB.out HTL.out HTM.out).mono ?_
    rintro e w3 ⟨sa, sb, hpa, hsa, hpb, hsb, hb3, B3, d3, rfl, ho3⟩
    have hrd := rdif_eq hpa hpb hsa hsb ((apart_perm hpa).2 HTL.out.apart) ((apart_perm hpb).2 HTM.out.apart)
    have hdl := diff_len _ sa sb rfl
    have hla : sa.length ≤ 100 := by have := hpa.length_eq; omega
    have hlb : sb.length ≤ 100 := by have := hpb.length_eq; omega
    generalize diffL sa sb = D at *
    have hDl : D.length ≤ 200 := by omega
    have HRD := Lib.hid hrd
    have HB3 := Lib.hid (HB2.out.trans (hb3.mono HB2.out.size))
    have HI3 := Lib.hid (HI2.out.below hb3)
    have HJ3 := Lib.hid (HJ2.out.below hb3)
    have HO3 := Lib.hid ho3
    clear hrd hdl hla hlb hpa hsa hpb hsb hb3 ho3 HB2 HI2 HJ2
    have hk4 := rchk_any A1 c1 L w3 HI3.out HLB.out HLZ.out (by omega)
    rw [hg1] at hk4
    go_wp2_with fail
    refine hk4.mono ?_
    rintro e w4 ⟨rfl, hb4⟩
    have HB4 := Lib.hid (HB3.out.trans (hb4.mono HB3.out.size))
    have HI4 := Lib.hid (HI3.out.below hb4)
    have HJ4 := Lib.hid (HJ3.out.below hb4)
    have HO4 := Lib.hid (own_atN HO3.out fun i hi => hb4.block i (HO3.out.lt i hi).2)
    clear hk4 hb4 HB3 HI3 HJ3 HO3
    have hk5 := rchk_any A2 c2 M w4 HJ4.out HMB.out HMZ.out (by omega)
    rw [hg2] at hk5
    go_wp2_with fail
    refine hk5.mono ?_
    rintro e w5 ⟨rfl, hb5⟩
    have HB5 := Lib.hid (HB4.out.trans (hb5.mono HB4.out.size))
    have HI5 := Lib.hid (HI4.out.below hb5)
    have HJ5 := Lib.hid (HJ4.out.below hb5)
    have HO5 := Lib.hid (own_atN HO4.out fun i hi => hb5.block i (HO4.out.lt i hi).2)
    clear hk5 hb5 HB4 HI4 HJ4 HO4
    go_wp2_with fail
    refine (HAW.out _ (HE.out _ HB5.out)).mono ?_
    rintro e w6 ⟨rfl, hb6⟩
    have HB6 := Lib.hid (HB5.out.trans (hb6.mono HB5.out.size))
    have HI6 := Lib.hid (HI5.out.below hb6)
    have HJ6 := Lib.hid (HJ5.out.below hb6)
    have HO6 := Lib.hid (own_atN HO5.out fun i hi => hb6.block i (HO5.out.lt i hi).2)
    clear hb6 HB5 HI5 HJ5 HO5
    have hk7 := rdiff_any A1 A2 c1 c2 L M w6 HI6.out HJ6.out hn1 hn2 (by omega) (by omega) (fun x hx => by
      rcases List.mem_append.1 hx with h | h
      · exact tree_paths HTL.out x h
      · exact tree_paths HTM.out x h)
    rw [HRD.out] at hk7
    go_wp2_with fail
    refine hk7.mono ?_
    rintro e w7 ⟨B7, d7, rfl, ho7, hb7⟩
    have HB7 := Lib.hid (HB6.out.trans (hb7.mono HB6.out.size))
    have HO7 := Lib.hid (own_atN HO6.out fun i hi => hb7.block i (HO6.out.lt i hi).2)
    have HM7 := Lib.hid ho7
    clear hk7 hb7 ho7 HB6 HI6 HJ6 HO6 HRD
    go_wp2
    go_loopw [50] (fun iv wr => ∃ i : Nat, iv = .int .i64 i ∧ i ≤ D.length ∧ Hid (Below w7.heap.size w7 wr)) (fun iv _ => D.length - (intOf iv).toNat)
    case atStart => exact ⟨0, rfl, Nat.zero_le _, Lib.hid (Below.refl _ _)⟩
    case round =>
      obtain ⟨i, rfl, hid, HBR⟩ := hrel
      by_cases hil : i < D.length
      · have hii : (i : Int) < (D.length : Int) := by omega
        have hi0 : (0 : Int) ≤ (i : Int) := by omega
        obtain ⟨g, e1, hg, p0, p1⟩ := own_chg HO7.out rfl hil
        obtain ⟨g', e2, hg', q0, q1⟩ := own_chgR HM7.out rfl hil
        subst e1 e2
        generalize D[i] = cg at *
        obtain ⟨pth, wt⟩ := cg
        simp only at p0 p1 q0 q1
        have r0 := (HBR.out.cell (p := ⟨g, i * 2, none⟩) hg).trans p0
        have r1 := (HBR.out.cell (p := ⟨g, i * 2 + 1, none⟩) hg).trans p1
        have s0 := (HBR.out.cell (p := ⟨g', i * 2, none⟩) hg').trans q0
        have s1 := (HBR.out.cell (p := ⟨g', i * 2 + 1, none⟩) hg').trans q1
        clear p0 p1 q0 q1
        go_upto_region 16 with fail
        go_quiet (fail)
        go_wp2
        go_roundw
        case rel => exact ⟨i + 1, by go_num, by omega, Lib.hid (HBR.out.trans ⟨rfl, rfl, rfl, Nat.le_refl _, fun _ _ => rfl⟩)⟩
        case measure => simp [intOf]; omega
      · obtain rfl : i = D.length := by omega
        have hii : ¬ (D.length : Int) < (D.length : Int) := by omega
        have HB8 := Lib.hid (HB7.out.trans (HBR.out.mono HB7.out.size))
        go_wp2
        go_ret
        exact ⟨rfl, HB8.out⟩
  · have hbad : ∃ n : Nat, n ≠ 0 ∧ n = if chkF L = 0 then chkF M else chkF L := by
      by_cases h1 : chkF L = 0
      · exact ⟨chkF M, fun h2 => hg ⟨h1, h2⟩, by rw [if_pos h1]⟩
      · exact ⟨chkF L, h1, by rw [if_neg h1]⟩
    obtain ⟨n, hn0, hnn⟩ := hbad
    have hne : ((n : Int) != 0) = true := by rw [bne_iff_ne]; omega
    have hdb := wdiff_bad A1 A2 c1 c2 L M w2 (HE.out _ HB2.out) HI2.out HJ2.out HLB.out HMB.out (by omega) (by omega) n hnn hn0
    have HNN := Lib.hid hnn
    clear hg hnn
    go_wp2_with fail
    refine hdb.mono ?_
    rintro e w3 ⟨rfl, hb3⟩
    have HB3 := Lib.hid (HB2.out.trans (hb3.mono HB2.out.size))
    have HI3 := Lib.hid (HI2.out.below hb3)
    have HJ3 := Lib.hid (HJ2.out.below hb3)
    clear hb3 HB2 HI2 HJ2 hdb
    have hk4 := rchk_any A1 c1 L w3 HI3.out HLB.out HLZ.out (by omega)
    go_wp2_with fail
    refine hk4.mono ?_
    rintro e w4 ⟨rfl, hb4⟩
    have HB4 := Lib.hid (HB3.out.trans (hb4.mono HB3.out.size))
    have HJ4 := Lib.hid (HJ3.out.below hb4)
    clear hk4 hb4 HB3 HI3 HJ3
    have hnn := HNN.out
    clear HNN
    by_cases h1 : chkF L = 0
    · rw [if_pos h1] at hnn
      have hk5 := rchk_any A2 c2 M w4 HJ4.out HMB.out HMZ.out (by omega)
      rw [← hnn] at hk5
      rw [h1]
      clear hnn h1
      go_wp2_with fail
      refine hk5.mono ?_
      rintro e w5 ⟨rfl, hb5⟩
      have HB5 := Lib.hid (HB4.out.trans (hb5.mono HB4.out.size))
      clear hk5 hb5 HB4 HJ4
      go_wp2_with fail
      refine (HAW.out _ (HE.out _ HB5.out)).mono ?_
      rintro e w6 ⟨rfl, hb6⟩
      have HB6 := Lib.hid (HB5.out.trans (hb6.mono HB5.out.size))
      clear hb6
      go_wp2
      go_ret
      exact ⟨rfl, HB6.out⟩
    · rw [if_neg h1] at hnn
      rw [← hnn]
      have hne2 : ((n : Int) == 0) = false := by rw [beq_eq_false_iff_ne]; omega
      clear hnn h1
      go_wp2_with fail
      refine (HAW.out _ (HE.out _ HB4.out)).mono ?_
      rintro e w6 ⟨rfl, hb6⟩
      have HB6 := Lib.hid (HB4.out.trans (hb6.mono HB4.out.size))
      clear hb6
      go_wp2
      go_ret
      exact ⟨rfl, HB6.out⟩
theorem wdiffs_card (l : List Itm) (v : Value) (m : List Itm) (u : Value) (w : World) (he : Env w) (hp : ItmP w v l ∧ ∀ x ∈ l, x.path.size ≤ 1048576 ∧ x.data.size ≤ 1048576) (hq : ItmP w u m ∧ ∀ x ∈ m, x.path.size ≤ 1048576 ∧ x.data.size ≤ 1048576) :
    Calls Tryd.prog 13 #[v, u] w fun e w' => e = .returned (.bool true) ∧ Below w.heap.size w w' := by
  obtain ⟨⟨A, c, rfl, hi, hl, hb, hn, hc⟩, hz⟩ := hp
  obtain ⟨⟨B, d, rfl, hj, hm, hb', hn', hd⟩, hz'⟩ := hq
  exact wdiffs_all A B c d l m w he hi hj hb hb' hn hn' hc hd (fun x hx => Nat.le_trans (hz x hx).1 (by decide)) fun x hx => Nat.le_trans (hz' x hx).1 (by decide)
end Go.Proofs.YtaoejgnfoecpfaaDoor
