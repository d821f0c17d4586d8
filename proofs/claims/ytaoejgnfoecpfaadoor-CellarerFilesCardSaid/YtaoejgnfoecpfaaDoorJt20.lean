/- A tree's items: their form. walk.Check, walked. A tree's items: what a check says: the plain law. walk.Size; awake of layer 13. -/
import Derived.Test.YtaoejgnfoecpfaaDoorJt9
import Derived.Test.YtaoejgnfoecpfaaDoorJt11
import Derived.Test.YtaoejgnfoecpfaaDoorJt10
import Derived.Test.YtaoejgnfoecpfaaDoorJt12
import Derived.Deep.DeepCutAuto
namespace Go.Proofs.YtaoejgnfoecpfaaDoor
set_option linter.unusedVariables false
set_option linter.unusedSimpArgs false
set_option linter.unusedSectionVars false
open Go.RowKit

def formI (x : Itm) : Bool := decide (0 ≤ x.mode) && decide (x.mode ≤ 511) && decide (0 ≤ x.time) && decide (x.time ≤ 253402300799) && (!decide (x.kind = 1) || decide (x.data.size = 0)) && (!decide (x.kind = 3) || tgt x.data)
/-- an item's error by itself -/
def fitI (x : Itm) : Nat := if x.kind < 1 ∨ 3 < x.kind then 12 else if isPath x.path = false then 11 else if formI x = false then 4 else if 32768 < x.data.size then 2 else 0
/-- the bounds of what came in -/
structure ItB (x : Itm) : Prop where
  path : x.path.size ≤ 140737488355328
  data : x.data.size ≤ 140737488355328
theorem form_cases (x : Itm) : (formI x = false ∧ (x.mode < 0 ∨ (¬ x.mode < 0 ∧ 511 < x.mode) ∨ (¬ x.mode < 0 ∧ ¬ 511 < x.mode ∧ x.time < 0) ∨ (¬ x.mode < 0 ∧ ¬ 511 < x.mode ∧ ¬ x.time < 0 ∧ 253402300799 < x.time))) ∨
    ((¬ x.mode < 0 ∧ ¬ 511 < x.mode ∧ ¬ x.time < 0 ∧ ¬ 253402300799 < x.time) ∧ formI x = ((!decide (x.kind = 1) || decide (x.data.size = 0)) && (!decide (x.kind = 3) || tgt x.data))) := by
  unfold formI
  by_cases h1 : x.mode < 0
  · exact .inl ⟨by rw [decide_eq_false (p := 0 ≤ x.mode) (by omega)]; rfl, .inl h1⟩
  by_cases h2 : 511 < x.mode
  · exact .inl ⟨by rw [decide_eq_false (p := x.mode ≤ 511) (by omega), Bool.and_false]; rfl, .inr (.inl ⟨h1, h2⟩)⟩
  by_cases h3 : x.time < 0
  · exact .inl ⟨by rw [decide_eq_false (p := 0 ≤ x.time) (by omega), Bool.and_false]; rfl, .inr (.inr (.inl ⟨h1, h2, h3⟩))⟩
  by_cases h4 : 253402300799 < x.time
  · exact .inl ⟨by rw [decide_eq_false (p := x.time ≤ 253402300799) (by omega), Bool.and_false]; rfl, .inr (.inr (.inr ⟨h1, h2, h3, h4⟩))⟩
  · exact .inr ⟨⟨h1, h2, h3, h4⟩, by rw [decide_eq_true (p := 0 ≤ x.mode) (by omega), decide_eq_true (p := x.mode ≤ 511) (by omega), decide_eq_true (p := 0 ≤ x.time) (by omega), decide_eq_true (p := x.time ≤ 253402300799) (by omega)]; rfl⟩
set_option maxRecDepth 100000 in
set_option maxHeartbeats 3200000 in
theorem wfit_any (x : Itm) (w : World) (he : Env w) (hb : ItB x) :
    Calls Tryd.prog 89 #[.agg #[.string x.path, .int .i64 x.kind, .int .i64 x.mode, .int .i64 x.time, .string x.data]] w fun e w' => e = .returned (.int .i64 (fitI x)) ∧ Below w.heap.size w w' := by
  have HF := Lib.hid (show fitI x = if x.kind < 1 ∨ 3 < x.kind then 12 else if isPath x.path = false then 11 else if formI x = false then 4 else if 32768 < x.data.size then 2 else 0 from rfl)
  have hb0 := (Below.refl w.heap.size w).alloc (Nat.le_refl _) (.cells #[.string x.path, .int .i64 x.kind, .int .i64 x.mode, .int .i64 x.time, .string x.data] 59)
  have HB0 := Lib.hid hb0
  have HK0 := Lib.hid (Blk.new w 59 #[.string x.path, .int .i64 x.kind, .int .i64 x.mode, .int .i64 x.time, .string x.data])
  have HIS := Lib.hid fun W (h : Env W) => pis_big x.path W h hb.path
  have HTG := Lib.hid fun W => target_any x.data W hb.data
  have HE := Lib.hid fun W (hb : Below w.heap.size w W) => he.below hb
  have FC := Lib.hid (form_cases x)
  have hem : x.data.toList.isEmpty = decide (x.data.size = 0) := toList_isEmpty x.data
  have hdz := hb.data
  generalize fitI x = fv at *
  generalize formI x = fo at *
  clear hb he hb0
  obtain ⟨pa, ki, mo, ti, da⟩ := x
  simp only at HF HB0 HK0 HIS HTG FC hem hdz ⊢
  by_cases hk : ki < 1 ∨ 3 < ki
  · have HV := Lib.hid (show fv = 12 by rw [HF.out, if_pos hk])
    rcases (by omega : ki < 1 ∨ (¬ ki < 1 ∧ 3 < ki)) with q1 | ⟨q1, q2⟩
    all_goals
      clear hk
      go_enter Tryd.func89, Tryd.ntmps89
      go_wp2
      go_ret
      exact ⟨ret_int (by rw [HV.out]; rfl), HB0.out⟩
  · have hk1 : ¬ ki < 1 := by omega
    have hk2 : ¬ 3 < ki := by omega
    have HF2 := Lib.hid (HF.out.trans (if_neg hk))
    clear HF
    generalize isPath pa = ip at *
    generalize tgt da = tg at *
    go_enter Tryd.func89, Tryd.ntmps89
    go_wp2_with fail
    refine (HIS.out _ (HE.out _ HB0.out)).mono ?_
    rintro e w2 ⟨rfl, hb2⟩
    have HB2 := Lib.hid (HB0.out.trans (hb2.mono HB0.out.size))
    have HK2 := Lib.hid (HK0.out.below hb2 (by simp))
    clear hb2
    have c1 : w2.cell? ⟨w.heap.size, 1, none⟩ = some (.int .i64 ki) := HK2.out.cell 1
    have c2 : w2.cell? ⟨w.heap.size, 2, none⟩ = some (.int .i64 mo) := HK2.out.cell 2
    have c3 : w2.cell? ⟨w.heap.size, 3, none⟩ = some (.int .i64 ti) := HK2.out.cell 3
    have c4 : w2.cell? ⟨w.heap.size, 4, none⟩ = some (.string da) := HK2.out.cell 4
    cases ip with
    | false =>
      have HV := Lib.hid (show fv = 11 by rw [HF2.out]; rfl)
      go_wp2
      go_ret
      exact ⟨ret_int (by rw [HV.out]; rfl), HB2.out⟩
    | true =>
      have HF3 := Lib.hid (HF2.out.trans (if_neg (by simp)))
      clear HF2
      rcases FC.out with ⟨hf, hq⟩ | ⟨⟨q1, q2, q3, q4⟩, hf⟩
      · have HV := Lib.hid (show fv = 4 by rw [HF3.out, if_pos hf])
        clear hf FC HF3
        rcases hq with q1 | ⟨q1, q2⟩ | ⟨q1, q2, q3⟩ | ⟨q1, q2, q3, q4⟩
        all_goals
          go_wp2
          go_ret
          exact ⟨ret_int (by rw [HV.out]; rfl), HB2.out⟩
      · have HFO := Lib.hid hf
        clear hf FC
        rcases (by omega : ki = 1 ∨ ki = 2 ∨ ki = 3) with hk3 | hk3 | hk3
        · subst hk3
          by_cases hd : da.size = 0
          · have hd1 := decide_eq_true hd
            rw [hd1] at hem
            have HV := Lib.hid (show fv = 0 by
              rw [HF3.out, if_neg ?_, if_neg (by omega)]
              rw [HFO.out, hd1]
              simp)
            have hle : ¬ (32768 : Int) < (da.size : Int) := by omega
            clear hd hd1 HFO HF3
            go_wp2
            go_ret
            exact ⟨ret_int (by rw [HV.out]; rfl), HB2.out⟩
          · have hd1 := decide_eq_false hd
            rw [hd1] at hem
            have HV := Lib.hid (show fv = 4 by
              rw [HF3.out, if_pos ?_]
              rw [HFO.out, hd1]
              simp)
            clear hd hd1 HFO HF3
            go_wp2
            go_ret
            exact ⟨ret_int (by rw [HV.out]; rfl), HB2.out⟩
        · subst hk3
          have hfo : fo = true := by rw [HFO.out]; simp
          by_cases hz : 32768 < da.size
          · have hz1 : (32768 : Int) < (da.size : Int) := by omega
            have HV := Lib.hid (show fv = 2 by rw [HF3.out, if_neg (by rw [hfo]; simp), if_pos hz])
            clear hz hfo HFO HF3
            go_wp2
            go_ret
            exact ⟨ret_int (by rw [HV.out]; rfl), HB2.out⟩
          · have hz1 : ¬ (32768 : Int) < (da.size : Int) := by omega
            have HV := Lib.hid (show fv = 0 by rw [HF3.out, if_neg (by rw [hfo]; simp), if_neg hz])
            clear hz hfo HFO HF3
            go_wp2
            go_ret
            exact ⟨ret_int (by rw [HV.out]; rfl), HB2.out⟩
        · subst hk3
          have HFO2 := Lib.hid (show fo = tg by rw [HFO.out]; simp)
          clear HFO
          go_wp2_with fail
          refine (HTG.out _).mono ?_
          rintro e w3 ⟨rfl, hb3⟩
          have HB3 := Lib.hid (HB2.out.trans (hb3.mono HB2.out.size))
          have c5 : w3.cell? ⟨w.heap.size, 4, none⟩ = some (.string da) := (HK2.out.below hb3 HK2.out.lt).cell 4
          clear hb3
          cases tg with
          | false =>
            have HV := Lib.hid (show fv = 4 by rw [HF3.out, if_pos HFO2.out])
            clear HFO2 HF3
            go_wp2
            go_ret
            exact ⟨ret_int (by rw [HV.out]; rfl), HB3.out⟩
          | true =>
            by_cases hz : 32768 < da.size
            · have hz1 : (32768 : Int) < (da.size : Int) := by omega
              have HV := Lib.hid (show fv = 2 by rw [HF3.out, if_neg (by rw [HFO2.out]; simp), if_pos hz])
              clear hz HFO2 HF3
              go_wp2
              go_ret
              exact ⟨ret_int (by rw [HV.out]; rfl), HB3.out⟩
            · have hz1 : ¬ (32768 : Int) < (da.size : Int) := by omega
              have HV := Lib.hid (show fv = 0 by rw [HF3.out, if_neg (by rw [HFO2.out]; simp), if_neg hz])
              clear hz HFO2 HF3
              go_wp2
              go_ret
              exact ⟨ret_int (by rw [HV.out]; rfl), HB3.out⟩
end Go.Proofs.YtaoejgnfoecpfaaDoor
namespace Go.Proofs.YtaoejgnfoecpfaaDoor
set_option linter.unusedVariables false
set_option linter.unusedSimpArgs false
set_option linter.unusedSectionVars false
open Go.RowKit

def fitsE : List Itm → Nat
  | [] => 0
  | x :: r => if fitI x ≠ 0 then fitI x else fitsE r
def thereI (pre : List Itm) (p : ByteArray) : Bool := decide (p.size = 0) || pre.any fun y => decide (y.kind = 1) && decide (y.path = p)
def lastIs (pre : List Itm) (p : ByteArray) : Bool := match pre.getLast? with | some y => decide (y.path = p) | none => false
def stepI (pre : List Itm) (x : Itm) : Nat := if lastIs pre x.path = true then 8 else if thereI pre (parentP x.path) = false then 7 else 0
def goI : List Itm → List Itm → Nat
  | _, [] => 0
  | pre, x :: r => if stepI pre x ≠ 0 then stepI pre x else goI (pre ++ [x]) r
/-- what a check tells: of a row put in order -/
def ChkR (l : List Itm) (e : Nat) : Prop := (200 < l.length ∧ e = 2) ∨ (l.length ≤ 200 ∧ fitsE l ≠ 0 ∧ e = fitsE l) ∨ (l.length ≤ 200 ∧ fitsE l = 0 ∧ ∃ ys, ys.Perm l ∧ SortedI ys ∧ e = goI [] ys)
theorem goI_step {pre r : List Itm} {x : Itm} (h : stepI pre x = 0) : goI pre (x :: r) = goI (pre ++ [x]) r := by
  conv => lhs; unfold goI
  rw [if_neg (by omega)]
theorem goI_stop {pre r : List Itm} {x : Itm} (h : stepI pre x ≠ 0) : goI pre (x :: r) = stepI pre x := by unfold goI; rw [if_pos h]
theorem fits_all : ∀ (l : List Itm), fitsE l = 0 → ∀ x ∈ l, fitI x = 0
  | [], _, x, hx => by cases hx
  | y :: r, h, x, hx => by
    unfold fitsE at h
    split at h
    · next h1 => exact absurd h h1
    · next h1 =>
      rcases List.mem_cons.1 hx with rfl | hx
      · omega
      · exact fits_all r h x hx
theorem fits_none : ∀ (l : List Itm), (∀ x ∈ l, fitI x = 0) → fitsE l = 0
  | [], _ => rfl
  | y :: r, h => by
    unfold fitsE
    rw [if_neg (by rw [h y (by simp)]; simp)]
    exact fits_none r fun x hx => h x (by simp [hx])
theorem fit_path_ok {x : Itm} (h : fitI x = 0) : isPath x.path = true := by
  unfold fitI at h
  split at h
  · cases h
  · split at h
    · cases h
    · next h1 => simpa using h1
theorem snoc_rec {α : Type} {p : List α → Prop} (h0 : p []) (h1 : ∀ l x, p l → p (l ++ [x])) (l : List α) : p l := by
  have h : ∀ r : List α, p r.reverse := fun r => by
    induction r with
    | nil => exact h0
    | cons x r ih =>
      rw [List.reverse_cons]
      exact h1 _ _ ih
  have h2 := h l.reverse
  rwa [List.reverse_reverse] at h2
/-- the map of folders -/
def mapI (pre : List Itm) : List (ByteArray × Value) := pre.foldl (fun m x => kvPut m x.path (.bool (decide (x.kind = 1)))) (kvPut [] ⟨#[]⟩ (.bool true))
theorem mapI_snoc (pre : List Itm) (x : Itm) : mapI (pre ++ [x]) = kvPut (mapI pre) x.path (.bool (decide (x.kind = 1))) := by
  unfold mapI
  rw [List.foldl_append]
  rfl
theorem mapI_len (pre : List Itm) : (mapI pre).length ≤ pre.length + 1 := by
  refine snoc_rec (p := fun pre => (mapI pre).length ≤ pre.length + 1) (by decide) (fun pre x ih => ?_) pre
  · rw [mapI_snoc]
    have := kvPut_len (mapI pre) x.path (.bool (decide (x.kind = 1)))
    simp only [List.length_append, List.length_singleton]
    omega
theorem thereI_snoc (pre : List Itm) (x : Itm) (p : ByteArray) : thereI (pre ++ [x]) p = (thereI pre p || (decide (x.kind = 1) && decide (x.path = p))) := by
  unfold thereI
  rw [List.any_append, ← Bool.or_assoc]
  simp
def Apart (l : List Itm) : Prop := l.Pairwise fun x y => x.path ≠ y.path
theorem mapI_get (pre : List Itm) (p : ByteArray) : (∀ x ∈ pre, x.path.size ≠ 0) → Apart pre → (kvGet (mapI pre) p).getD (.bool false) = .bool (thereI pre p) := by
  refine snoc_rec (p := fun pre => (∀ x ∈ pre, x.path.size ≠ 0) → Apart pre → (kvGet (mapI pre) p).getD (.bool false) = .bool (thereI pre p)) (fun _ _ => ?_) (fun pre x ih hne ha => ?_) pre
  · have e : mapI [] = kvPut [] ⟨#[]⟩ (.bool true) := rfl
    rw [e, kvGet_put']
    unfold thereI
    by_cases h : (⟨#[]⟩ : ByteArray) = p
    · rw [if_pos h, ← h]; rfl
    · rw [if_neg h]
      have : p.size ≠ 0 := fun h0 => h (by
        apply ba_inj
        rw [List.eq_nil_of_length_eq_zero (show p.data.toList.length = 0 by rw [ba_len]; exact h0)])
      rw [decide_eq_false this]
      rfl
  · have ih := ih (fun y hy => hne y (by simp [hy])) (List.pairwise_append.1 ha).1
    rw [mapI_snoc, kvGet_put', thereI_snoc]
    by_cases h : x.path = p
    · rw [if_pos h, decide_eq_true h]
      have h0 : thereI pre p = false := by
        unfold thereI
        rw [decide_eq_false (by rw [← h]; exact hne x (by simp)), Bool.false_or, List.any_eq_false]
        intro y hy
        have := (List.pairwise_append.1 ha).2.2 y hy x (by simp)
        rw [decide_eq_false (p := y.path = p) (fun e => this (e.trans h.symm))]
        simp
      rw [h0]
      simp
    · rw [if_neg h, decide_eq_false h, Bool.and_false, Bool.or_false]
      exact ih
theorem last_mem {pre : List Itm} {y : Itm} (h : pre.getLast? = some y) : y ∈ pre := List.mem_of_getLast? h
/-- ahead of what comes next, in order, all stand apart from it -/
theorem apart_next {pre : List Itm} {x : Itm} (hs : SortedI (pre ++ [x])) (ha : Apart pre) (hl : lastIs pre x.path = false) : Apart (pre ++ [x]) := by
  refine List.pairwise_append.2 ⟨ha, List.pairwise_singleton _ _, fun y hy z hz => ?_⟩
  obtain rfl : z = x := by simpa using hz
  intro e
  obtain ⟨u, hu⟩ : ∃ u, pre.getLast? = some u := by
    cases h : pre.getLast? with
    | some u => exact ⟨u, rfl⟩
    | none => rw [List.getLast?_eq_none_iff.1 h] at hy; cases hy
  unfold lastIs at hl
  rw [hu] at hl
  simp only [decide_eq_false_iff_not] at hl
  have h2 := (List.pairwise_append.1 hs).2.2 u (last_mem hu) z (by simp)
  have h3 : cmpL (partsP y.path) (partsP u.path) ≤ 0 := by
    obtain ⟨q, rfl⟩ := List.getLast?_eq_some_iff.1 hu
    rcases List.mem_append.1 hy with h | h
    · exact (List.pairwise_append.1 (List.pairwise_append.1 hs).1).2.2 y h u (by simp)
    · obtain rfl : y = u := by simpa using h
      rw [(cmpL_zero _ _).2 rfl]
      decide
  rw [e] at h3
  have h4 := cmpL_turn (partsP u.path) (partsP z.path)
  have h5 : cmpL (partsP u.path) (partsP z.path) = 0 := by omega
  exact hl (partsP_inj ((cmpL_zero _ _).1 h5))
/-- items stay where a map is turned -/
theorem ItmA.turned {w w' : World} {A : Option Addr} {l : List Itm} {P : Program} {t : TypeId} {b : Nat} {m : List (ByteArray × Value)} (h : ItmA w A l) (hm : ownsKV w P t b m) (ht : Touch (· = b) w w') : ItmA w' A l := fun hl => by
  obtain ⟨g, o, rfl, hg, hc⟩ := h hl
  have hne : g ≠ b := by
    rintro rfl
    obtain ⟨es, clock, hb, _⟩ := hm
    have h1 := hc 0 l[0] (List.getElem?_eq_getElem hl) 0 _ rfl
    simp [World.cell?, hb] at h1
  exact ⟨g, o, rfl, Nat.lt_of_lt_of_le hg ht.size, fun i x hx j u hj => (ht.cell (p := ⟨g, o + i * 5 + j, none⟩) hg hne).trans (hc i x hx j u hj)⟩
set_option maxRecDepth 100000 in
set_option maxHeartbeats 6400000 in
theorem wcheck_any (A : Option Addr) (c : Nat) (l : List Itm) (w : World) (he : Env w) (hi : ItmA w A l) (hb : ∀ x ∈ l, ItB x) (hl : l.length ≤ 9223372036854775807) :
    Calls Tryd.prog 53 #[.slice A l.length c] w fun e w' => ∃ n : Nat, e = .returned (.int .i64 n) ∧ ChkR l n ∧ Below w.heap.size w w' := by
  have HE := Lib.hid fun W (hb : Below w.heap.size w W) => he.below hb
  have HN := Lib.hid fun W (hb : Below w.heap.size w W) => hi.below hb
  have HB := Lib.hid hb
  have HI := Lib.hid hi
  clear he hi hb
  by_cases h2 : 200 < l.length
  · have HC := Lib.hid (show ChkR l 2 from .inl ⟨h2, rfl⟩)
    have hq : (200 : Int) < (l.length : Int) := by omega
    clear h2
    go_enter Tryd.func53, Tryd.ntmps53
    go_wp2
    go_ret
    exact ⟨2, rfl, HC.out, Below.refl _ _⟩
  · have hq : ¬ (200 : Int) < (l.length : Int) := by omega
    have h200 : l.length ≤ 200 := by omega
    go_enter Tryd.func53, Tryd.ntmps53
    go_upto_region 3 with fail
    go_wp2
    go_loopw [15] (fun i wr => ∃ k : Nat, i = .int .i64 k ∧ k ≤ l.length ∧ Hid (fitsE (l.drop k) = fitsE l) ∧ Hid (Below w.heap.size w wr)) (fun i _ => l.length - (intOf i).toNat)
    case atStart => exact ⟨0, rfl, Nat.zero_le _, Lib.hid rfl, Lib.hid (Below.refl _ _)⟩
    case round =>
      obtain ⟨k, rfl, hk, HFI, HBL⟩ := hrel
      by_cases hkl : k < l.length
      · as_aux_lemma =>
        have hki : (k : Int) < (l.length : Int) := by omega
        have hdr : l.drop k = l[k] :: l.drop (k + 1) := List.drop_eq_getElem_cons hkl
        have HFN := Lib.hid (show fitsE l = if fitI l[k] ≠ 0 then fitI l[k] else fitsE (l.drop (k + 1)) by rw [← HFI.out, hdr]; rfl)
        obtain ⟨g, o, rfl, hg, hcc⟩ := HN.out wr HBL.out (by omega)
        have hcx := hcc k l[k] (List.getElem?_eq_getElem hkl)
        have HF := Lib.hid fun W (h : Env W) => wfit_any l[k] W h (HB.out _ (List.getElem_mem hkl))
        clear hcc hdr
        generalize l[k] = x at *
        obtain ⟨pa, ki, mo, ti, da⟩ := x
        have q0 : wr.cell? ⟨g, o + k * 5, none⟩ = some (.string pa) := hcx 0 _ rfl
        have q1 : wr.cell? ⟨g, o + k * 5 + 1, none⟩ = some (.int .i64 ki) := hcx 1 _ rfl
        have q2 : wr.cell? ⟨g, o + k * 5 + 2, none⟩ = some (.int .i64 mo) := hcx 2 _ rfl
        have q3 : wr.cell? ⟨g, o + k * 5 + 3, none⟩ = some (.int .i64 ti) := hcx 3 _ rfl
        have q4 : wr.cell? ⟨g, o + k * 5 + 4, none⟩ = some (.string da) := hcx 4 _ rfl
        clear hcx
        have HB2 := Lib.hid (HBL.out.alloc HBL.out.size (.cells #[.string pa, .int .i64 ki, .int .i64 mo, .int .i64 ti, .string da] 59))
        generalize fitI ⟨pa, ki, mo, ti, da⟩ = fv at *
        go_wp2_with fail
        refine (HF.out _ (HE.out _ HB2.out)).mono ?_
        rintro e w3 ⟨rfl, hb3⟩
        have HB3 := Lib.hid (HB2.out.trans (hb3.mono HB2.out.size))
        clear hb3
        by_cases hf : fv = 0
        · have HF2 := Lib.hid (show fitsE (l.drop (k + 1)) = fitsE l by rw [HFN.out, if_neg (by omega)])
          subst hf
          go_wp2
          go_roundw
          case rel => exact ⟨k + 1, by go_num, by omega, HF2, HB3⟩
          case measure => simp [intOf]; omega
        · have HF2 := Lib.hid (show fitsE l = fv by rw [HFN.out, if_pos hf])
          have hne : ((fv : Int) != 0) = true := by rw [bne_iff_ne]; omega
          go_wp2
          go_ret
          exact ⟨fv, rfl, .inr (.inl ⟨h200, by rw [HF2.out]; exact hf, HF2.out.symm⟩), HB3.out⟩
      · as_aux_lemma =>
        obtain rfl : k = l.length := by omega
        have h0 := HFI.out
        rw [List.drop_length] at h0
        have HF0 := Lib.hid h0.symm
        clear h0 HFI
        have HALL := Lib.hid (fits_all l HF0.out)
        generalize wr = wo at *
        have hmm := @run_makeMap Tryd.prog
        have hown0 := ownsKV_made wo Tryd.prog 9
        have HB0 := Lib.hid (HBL.out.alloc HBL.out.size (.map #[] 0))
        have hz0 : ∀ W, (zeroValue 4).run Tryd.prog W = .ok (.bool false) W := fun W => by kernel_rfl
        have HZ := Lib.hid hz0
        have HSO := Lib.hid fun W (hb : Below w.heap.size w W) => wsort_any A c l W (HE.out W hb) (HN.out W hb) (fun x hx => Nat.le_trans (path_size (fit_path_ok (HALL.out x hx))) (by decide)) (by omega)
        clear hz0
        go_wp2_with (refine wpList_kvInsert rfl _ _ _ 136 rfl Tryd.underlying9 Tryd.underlying136 rfl hown0 (by simp) (s := ⟨#[]⟩) rfl (by decide) rfl ?_; intro w1 hown1 hturn1)
        have hb1 : Below w.heap.size w w1 := (Touch.of_turned hturn1).below (w := wo.alloc (.map #[] 0)) (B := w.heap.size) HB0.out.size (fun k hk => by have := HBL.out.size; omega) |> fun h => HB0.out.trans h
        have hmb := HBL.out.size
        have HO1 := Lib.hid (show ownsKV w1 Tryd.prog 9 wo.heap.size (mapI []) from hown1)
        have HB1 := Lib.hid hb1
        clear hown1 hturn1 hb1 hown0 HB0
        go_wp2_with fail
        refine (HSO.out _ HB1.out).mono ?_
        rintro e w2 ⟨A2, c2, ys, rfl, hi2, hpm, hso, hyl, hb2, _⟩
        have HI2 := Lib.hid hi2
        have HPM := Lib.hid hpm
        have HSR := Lib.hid hso
        have HYL := Lib.hid hyl
        have HB2 := Lib.hid (HB1.out.trans (hb2.mono HB1.out.size))
        have HO2 := Lib.hid (ownsKV_block HO1.out (hb2.block _ (ownsKV_lt HO1.out)))
        have HFY := Lib.hid (show ∀ x ∈ ys, fitI x = 0 from fun x hx => HALL.out x (hpm.mem_iff.1 hx))
        have hy200 : ys.length ≤ 200 := by omega
        have hmb2 : wo.heap.size < w2.heap.size := Nat.lt_of_lt_of_le (ownsKV_lt HO1.out) hb2.size
        clear hi2 hpm hso hyl hb2 HO1 HB1
        go_wp2
        go_loopw [7, 30] (fun lv i wz => ∃ (k : Nat) (last : ByteArray), lv = .string last ∧ i = .int .i64 k ∧ k ≤ ys.length ∧ Hid (∀ y, (ys.take k).getLast? = some y → last = y.path) ∧ Hid (goI (ys.take k) (ys.drop k) = goI [] ys) ∧ Hid (Apart (ys.take k)) ∧ Hid (ownsKV wz Tryd.prog 9 wo.heap.size (mapI (ys.take k))) ∧ Hid (Below w.heap.size w wz) ∧ Hid (ItmA wz A2 ys)) (fun _ i _ => ys.length - (intOf i).toNat)
        case atStart => exact ⟨0, ⟨#[]⟩, rfl, rfl, Nat.zero_le _, Lib.hid (fun y hy => by simp at hy), Lib.hid rfl, Lib.hid List.Pairwise.nil, HO2, HB2, HI2⟩
        case round =>
          clear HO2 HB2 HI2
          obtain ⟨k, last, rfl, rfl, hk, HLA, HGO, HAP, HO, HBZ, HIZ⟩ := hrel
          by_cases hkl : k < ys.length
          · as_aux_lemma =>
            have hki : (k : Int) < (ys.length : Int) := by omega
            have hk0 : (0 : Int) ≤ (k : Int) := by omega
            have hdr : ys.drop k = ys[k] :: ys.drop (k + 1) := List.drop_eq_getElem_cons hkl
            have htk := List.take_succ_eq_append_getElem hkl
            have hgo := HGO.out
            rw [hdr] at hgo
            have hsk : SortedI (ys.take k ++ [ys[k]]) := by rw [← htk]; exact List.Pairwise.sublist (List.take_sublist (k + 1) ys) HSR.out
            obtain ⟨g, o, rfl, hg, hcc⟩ := HIZ.out (by omega)
            have hcx := hcc k ys[k] (List.getElem?_eq_getElem hkl)
            have hfx := HFY.out _ (List.getElem_mem hkl)
            have hge := mapI_get (ys.take k) (parentP ys[k].path) (fun x hx => by
              have := fit_path_ok (HFY.out x (List.mem_of_mem_take hx))
              intro h0
              have e : x.path = ⟨#[]⟩ := by
                apply ba_inj
                rw [List.eq_nil_of_length_eq_zero (show x.path.data.toList.length = 0 by rw [ba_len]; exact h0)]
              rw [e] at this
              exact absurd this (by decide +kernel)) HAP.out
            have hms := mapI_snoc (ys.take k) ys[k]
            have hml := mapI_len (ys.take k)
            have hst := @goI_step (ys.take k) (ys.drop (k + 1)) ys[k]
            have hsp := @goI_stop (ys.take k) (ys.drop (k + 1)) ys[k]
            have han := @apart_next (ys.take k) ys[k] hsk HAP.out
            have hse : stepI (ys.take k) ys[k] = if lastIs (ys.take k) ys[k].path = true then 8 else if thereI (ys.take k) (parentP ys[k].path) = false then 7 else 0 := rfl
            have hli : lastIs (ys.take k) ys[k].path = (decide (0 < k) && decide (last = ys[k].path)) := by
              unfold lastIs
              by_cases h0 : k = 0
              · subst h0; rfl
              · obtain ⟨m, rfl⟩ : ∃ m, k = m + 1 := ⟨k - 1, by omega⟩
                have h1 : (ys.take (m + 1)).getLast? = some ys[m] := by
                  rw [List.take_succ_eq_append_getElem (by omega), List.getLast?_append]; rfl
                rw [h1, HLA.out _ h1]
                simp
            have hnl : ∀ y, (ys.take (k + 1)).getLast? = some y → ys[k].path = y.path := fun y hy => by
              rw [htk, List.getLast?_append] at hy
              simp at hy
              rw [hy]
            have htl : (ys.take k).length ≤ 200 := by rw [List.length_take]; omega
            have HGO2 := Lib.hid hgo
            have HST := Lib.hid hst
            have HSP := Lib.hid hsp
            have HAN := Lib.hid han
            have HSE := Lib.hid hse
            have HNL := Lib.hid hnl
            have HMS := Lib.hid hms
            have HTK := Lib.hid htk
            have HGE := Lib.hid hge
            have hps : ys[k].path.size ≤ 200 := path_size (fit_path_ok hfx)
            clear hcc hdr htk hgo hsk hfx hge hms hst hsp han hse hnl HGO HLA HFY
            generalize ys[k] = x at *
            obtain ⟨pa, ki, mo, ti, da⟩ := x
            simp only at HMS HNL HGE HSE HAN hli hps
            have q0 : wr.cell? ⟨g, o + k * 5, none⟩ = some (.string pa) := hcx 0 _ rfl
            have q1 : wr.cell? ⟨g, o + k * 5 + 1, none⟩ = some (.int .i64 ki) := hcx 1 _ rfl
            have q2 : wr.cell? ⟨g, o + k * 5 + 2, none⟩ = some (.int .i64 mo) := hcx 2 _ rfl
            have q3 : wr.cell? ⟨g, o + k * 5 + 3, none⟩ = some (.int .i64 ti) := hcx 3 _ rfl
            have q4 : wr.cell? ⟨g, o + k * 5 + 4, none⟩ = some (.string da) := hcx 4 _ rfl
            clear hcx
            have hbb := (Below.refl wr.heap.size wr).alloc (Nat.le_refl _) (.cells #[.string pa, .int .i64 ki, .int .i64 mo, .int .i64 ti, .string da] 59)
            have HB8 := Lib.hid (HBZ.out.trans (hbb.mono HBZ.out.size))
            have HI8 := Lib.hid (HIZ.out.below hbb)
            have HO8 := Lib.hid (ownsKV_block HO.out (hbb.block _ (ownsKV_lt HO.out)))
            have HX8 := Lib.hid (Blk.new wr 59 #[.string pa, .int .i64 ki, .int .i64 mo, .int .i64 ti, .string da])
            have hmo := ownsKV_lt HO.out
            have HMO := Lib.hid hmo
            clear hbb HIZ HBZ HO
            have htx := txt_ne last pa
            cases hlv : lastIs (ys.take k) pa with
            | true =>
              rw [hlv] at hli
              have h8 := HSE.out
              rw [hlv] at h8
              have h9 : stepI (ys.take k) ⟨pa, ki, mo, ti, da⟩ = 8 := h8.trans (if_pos rfl)
              have HV := Lib.hid (show goI [] ys = 8 from HGO2.out.symm.trans ((HSP.out (by rw [h9]; decide)).trans h9))
              have hli2 := hli.symm
              simp only [Bool.and_eq_true, decide_eq_true_eq] at hli2
              have hk1 : (0 : Int) < (k : Int) := by omega
              rw [decide_eq_true hli2.2] at htx
              clear h8 h9 hli hli2 hlv
              go_wp2
              go_ret
              exact ⟨8, rfl, .inr (.inr ⟨h200, HF0.out, ys, HPM.out, HSR.out, HV.out.symm⟩), HB8.out⟩
            | false =>
              rw [hlv] at hli
              have h8 := HSE.out
              rw [hlv] at h8
              have HS7 := Lib.hid (show stepI (ys.take k) ⟨pa, ki, mo, ti, da⟩ = if thereI (ys.take k) (parentP pa) = false then 7 else 0 from h8.trans (if_neg (by simp)))
              have HAN2 := Lib.hid (HAN.out hlv)
              have HPP := Lib.hid fun W => pparent_any pa W (by omega)
              have hpz : (parentP pa).size ≤ 9223372036854775807 := by
                unfold parentP
                rw [ByteArray.size_extract]
                omega
              have hcs : ¬ (0 : Int) < (k : Int) ∨ ((0 : Int) < (k : Int) ∧ (last.toList == pa.toList) = false) := by
                by_cases h0 : 0 < k
                · refine .inr ⟨by omega, ?_⟩
                  rw [htx]
                  refine decide_eq_false fun e => ?_
                  rw [decide_eq_true h0, decide_eq_true e] at hli
                  cases hli
                · exact .inl (by omega)
              clear h8 hli hlv htx HAN HSE
              have HGE2 := HGE
              obtain ⟨wq, hwq⟩ : ∃ wq, wr.alloc (.cells #[.string pa, .int .i64 ki, .int .i64 mo, .int .i64 ti, .string da] 59) = wq := ⟨_, rfl⟩
              have c0 : wq.cell? ⟨wr.heap.size, 0, none⟩ = some (.string pa) := by rw [← hwq]; exact HX8.out.cell 0
              have c1 : wq.cell? ⟨wr.heap.size, 1, none⟩ = some (.int .i64 ki) := by rw [← hwq]; exact HX8.out.cell 1
              rw [hwq] at HB8 HI8 HO8
              have HWQ := Lib.hid hwq
              clear hwq HX8
              go_upto_region 15 with fail
              rw [HWQ.out]
              go_cut [42] (fun v wc => v = .bool false ∧ wq = wc)
              case first =>
                rcases hcs with h1 | ⟨h1, h2⟩
                all_goals
                  go_wp2
                  go_meet
                  exact ⟨rfl, rfl⟩
              case rest =>
                obtain ⟨rfl, rfl⟩ := hcut
                clear hcs
                go_wp2_with fail
                refine (HPP.out _).mono ?_
                rintro e w5 ⟨rfl, rfl⟩
                cases hth : thereI (ys.take k) (parentP pa) with
                | false =>
                  have hg2 := HGE2.out
                  rw [hth] at hg2
                  have HG2 := Lib.hid hg2
                  have h9 : stepI (ys.take k) ⟨pa, ki, mo, ti, da⟩ = 7 := HS7.out.trans (if_pos hth)
                  have HV := Lib.hid (show goI [] ys = 7 from HGO2.out.symm.trans ((HSP.out (by rw [h9]; decide)).trans h9))
                  clear hg2 h9 hth
                  go_wp2_with (at_lookup; refine wpList_kvGet rfl _ _ 136 rfl Tryd.underlying9 Tryd.underlying136 (HZ.out _) rfl HO8.out rfl (by unfold maxLen; omega) HG2.out ?_)
                  go_ret
                  exact ⟨7, rfl, .inr (.inr ⟨h200, HF0.out, ys, HPM.out, HSR.out, HV.out.symm⟩), HB8.out⟩
                | true =>
                  have hg2 := HGE2.out
                  rw [hth] at hg2
                  have HG2 := Lib.hid hg2
                  have h9 : stepI (ys.take k) ⟨pa, ki, mo, ti, da⟩ = 0 := HS7.out.trans (if_neg (by rw [hth]; simp))
                  have HV := Lib.hid (show goI (ys.take (k + 1)) (ys.drop (k + 1)) = goI [] ys by rw [HTK.out, ← HST.out h9]; exact HGO2.out)
                  have HMP := Lib.hid (show mapI (ys.take (k + 1)) = kvPut (mapI (ys.take k)) pa (.bool (decide (ki = 1))) by rw [HTK.out]; exact HMS.out)
                  have HAP2 := Lib.hid (show Apart (ys.take (k + 1)) by rw [HTK.out]; exact HAN2.out)
                  have hkq : (ki == 1) = decide (ki = 1) := by rw [Bool.eq_iff_iff, beq_iff_eq, decide_eq_true_eq]
                  obtain ⟨bk, hbk⟩ : ∃ bk : Bool, decide (ki = 1) = bk := ⟨_, rfl⟩
                  rw [hbk] at hkq HMP
                  have hps2 : pa.size ≤ 9223372036854775807 := by omega
                  clear hg2 h9 hth hbk HGE HMS HTK HST HSP HGO2
                  go_wp2_with (first
                    | (at_lookup; refine wpList_kvGet rfl _ _ 136 rfl Tryd.underlying9 Tryd.underlying136 (HZ.out _) rfl HO8.out rfl (by unfold maxLen; omega) HG2.out ?_)
                    | (at_mapUpdate; refine wpList_kvStore rfl _ _ _ 136 rfl Tryd.underlying9 Tryd.underlying136 rfl HO8.out (by omega) rfl (by unfold maxLen; omega) rfl ?_; intro w8 hown8 hturn8))
                  have HO9 := Lib.hid hown8
                  have htb := (Touch.of_turned hturn8)
                  have HB9 := Lib.hid (HB8.out.trans (htb.below (B := w.heap.size) HB8.out.size (fun k hk => by omega)))
                  have HI9 := Lib.hid (HI8.out.turned HO8.out htb)
                  clear hown8 hturn8 htb
                  go_wp2
                  go_roundw
                  case rel => exact ⟨k + 1, pa, rfl, by go_num, by omega, Lib.hid fun y hy => HNL.out y hy, HV, HAP2, by rw [HMP.out]; exact HO9, HB9, HI9⟩
                  case measure => simp [intOf]; omega
          · as_aux_lemma =>
            obtain rfl : k = ys.length := by omega
            have hgo := HGO.out
            rw [List.drop_length] at hgo
            have HX := Lib.hid (show goI [] ys = 0 from hgo.symm)
            clear hgo
            go_wp2
            go_ret
            exact ⟨0, rfl, .inr (.inr ⟨h200, HF0.out, ys, HPM.out, HSR.out, HX.out.symm⟩), HBZ.out⟩
end Go.Proofs.YtaoejgnfoecpfaaDoor
namespace Go.Proofs.YtaoejgnfoecpfaaDoor
set_option linter.unusedVariables false
set_option linter.unusedSimpArgs false
set_option linter.unusedSectionVars false
open Go.RowKit

theorem parent_cases (s : ByteArray) : (parentP s = ⟨#[]⟩ ∧ partsP s = [s]) ∨ partsP s = partsP (parentP s) ++ [baseP s] := by
  rcases last_cases s with ⟨e, hp, _⟩ | ⟨i, hi, e, h47, hp, _⟩
  · left
    unfold parentP
    rw [e]
    refine ⟨ext_00 s, ?_⟩
    unfold partsP
    rw [hp, List.map_cons, List.map_nil, strB_self]
  · right
    have ep : parentP s = s.extract 0 i := by unfold parentP; rw [e]; rfl
    have eb : baseP s = s.extract (i + 1) s.size := by unfold baseP; rw [e]; congr 1
    rw [ep, eb]
    unfold partsP partsR at *
    rw [hp, List.map_append, List.map_cons, List.map_nil, strB_self]
/-- what is in a folder stands behind it -/
theorem parent_less {s : ByteArray} (h : (parentP s).size ≠ 0) : cmpL (partsP (parentP s)) (partsP s) = -1 := by
  rcases parent_cases s with ⟨h1, _⟩ | h1
  · rw [h1] at h; exact absurd rfl h
  · rw [h1]
    exact cmpL_in _ _ (by simp)
theorem go_all : ∀ (r pre : List Itm), goI pre r = 0 ↔ ∀ (i : Nat) (x : Itm), r[i]? = some x → stepI (pre ++ r.take i) x = 0
  | [], pre => by simp [goI]
  | y :: r, pre => by
    have ih := go_all r (pre ++ [y])
    constructor
    · intro h i x hx
      have h0 : stepI pre y = 0 := by
        unfold goI at h
        split at h
        · next h1 => exact absurd h h1
        · next h1 => omega
      rw [goI_step h0] at h
      cases i with
      | zero =>
        simp at hx
        subst hx
        simpa using h0
      | succ i =>
        have := ih.1 h i x (by simpa using hx)
        simpa using this
    · intro h
      have h0 : stepI pre y = 0 := by simpa using h 0 y rfl
      rw [goI_step h0]
      refine ih.2 fun i x hx => ?_
      have := h (i + 1) x (by simpa using hx)
      simpa using this
theorem step_zero {pre : List Itm} {x : Itm} : stepI pre x = 0 ↔ lastIs pre x.path = false ∧ thereI pre (parentP x.path) = true := by
  unfold stepI
  cases lastIs pre x.path <;> cases thereI pre (parentP x.path) <;> simp
/-- a folder for each -/
def Parents (l : List Itm) : Prop := ∀ x ∈ l, (parentP x.path).size = 0 ∨ ∃ y ∈ l, y.kind = 1 ∧ y.path = parentP x.path
structure TreeOk (l : List Itm) : Prop where
  len : l.length ≤ 200
  fit : ∀ x ∈ l, fitI x = 0
  apart : Apart l
  there : Parents l
theorem there_iff {pre : List Itm} {p : ByteArray} : thereI pre p = true ↔ p.size = 0 ∨ ∃ y ∈ pre, y.kind = 1 ∧ y.path = p := by
  unfold thereI
  simp only [Bool.or_eq_true, decide_eq_true_eq, List.any_eq_true, Bool.and_eq_true]
theorem take_snoc {l : List Itm} {i : Nat} {x : Itm} (h : l[i]? = some x) : l.take (i + 1) = l.take i ++ [x] := by
  obtain ⟨hi, rfl⟩ := List.getElem?_eq_some_iff.1 h
  exact List.take_succ_eq_append_getElem hi
theorem sorted_take {l : List Itm} (h : SortedI l) (n : Nat) : SortedI (l.take n) := List.Pairwise.sublist (List.take_sublist n l) h
theorem go_apart {ys : List Itm} (hs : SortedI ys) (h : goI [] ys = 0) : ∀ n, Apart (ys.take n)
  | 0 => List.Pairwise.nil
  | n + 1 => by
    have ih := go_apart hs h n
    cases hx : ys[n]? with
    | none =>
      rw [List.take_of_length_le (by have := List.getElem?_eq_none_iff.1 hx; omega)]
      rw [List.take_of_length_le (by have := List.getElem?_eq_none_iff.1 hx; omega)] at ih
      exact ih
    | some x =>
      rw [take_snoc hx]
      refine apart_next (by rw [← take_snoc hx]; exact sorted_take hs _) ih ?_
      have := (go_all ys []).1 h n x hx
      rw [List.nil_append] at this
      exact (step_zero.1 this).1
theorem go_zero {ys : List Itm} (hs : SortedI ys) : goI [] ys = 0 ↔ Apart ys ∧ Parents ys := by
  constructor
  · intro h
    refine ⟨by have := go_apart hs h ys.length; rwa [List.take_length] at this, fun x hx => ?_⟩
    obtain ⟨i, hi, rfl⟩ := List.getElem_of_mem hx
    have := (go_all ys []).1 h i _ (List.getElem?_eq_getElem hi)
    rw [List.nil_append] at this
    rcases there_iff.1 (step_zero.1 this).2 with h1 | ⟨y, hy, h1⟩
    · exact .inl h1
    · exact .inr ⟨y, List.mem_of_mem_take hy, h1⟩
  · rintro ⟨ha, hp⟩
    refine (go_all ys []).2 fun i x hx => ?_
    rw [List.nil_append, step_zero]
    obtain ⟨hi, he⟩ := List.getElem?_eq_some_iff.1 hx
    have hmem : x ∈ ys := List.mem_of_getElem? hx
    have hsp : ys = ys.take i ++ x :: ys.drop (i + 1) := by
      rw [← he, ← List.drop_eq_getElem_cons hi, List.take_append_drop]
    refine ⟨?_, there_iff.2 ?_⟩
    · unfold lastIs
      cases hl : (ys.take i).getLast? with
      | none => rfl
      | some y =>
        have hy := List.mem_of_getLast? hl
        rw [hsp] at ha
        exact decide_eq_false ((List.pairwise_append.1 ha).2.2 y hy x (by simp))
    · rcases hp x hmem with h1 | ⟨y, hy, h1, h2⟩
      · exact .inl h1
      · by_cases h0 : (parentP x.path).size = 0
        · exact .inl h0
        · refine .inr ⟨y, ?_, h1, h2⟩
          have hlt := parent_less h0
          rw [← h2] at hlt
          rw [hsp] at hy
          rcases List.mem_append.1 hy with h3 | h3
          · exact h3
          · exfalso
            rcases List.mem_cons.1 h3 with rfl | h3
            · rw [(cmpL_zero _ _).2 rfl] at hlt
              cases hlt
            · rw [hsp] at hs
              have h4 := (List.pairwise_cons.1 (List.pairwise_append.1 hs).2.1).1 y h3
              have h5 := cmpL_turn (partsP y.path) (partsP x.path)
              omega
theorem apart_perm {a b : List Itm} (h : a.Perm b) : Apart a ↔ Apart b := h.pairwise_iff fun h e => h e.symm
theorem parents_perm {a b : List Itm} (h : a.Perm b) : Parents a ↔ Parents b := by
  unfold Parents
  constructor
  · intro h1 x hx
    rcases h1 x (h.mem_iff.2 hx) with h2 | ⟨y, hy, h2⟩
    · exact .inl h2
    · exact .inr ⟨y, h.mem_iff.1 hy, h2⟩
  · intro h1 x hx
    rcases h1 x (h.mem_iff.1 hx) with h2 | ⟨y, hy, h2⟩
    · exact .inl h2
    · exact .inr ⟨y, h.mem_iff.2 hy, h2⟩
/-- a check says 0 of just the trees -/
theorem chk_zero {l : List Itm} {e : Nat} (h : ChkR l e) : e = 0 ↔ TreeOk l := by
  rcases h with ⟨h1, rfl⟩ | ⟨h1, h2, rfl⟩ | ⟨h1, h2, ys, h3, h4, rfl⟩
  · exact ⟨fun h => (by cases h), fun h => absurd (TreeOk.len h) (by omega)⟩
  · exact ⟨fun h => absurd h h2, fun h => absurd (fits_none l (TreeOk.fit h)) h2⟩
  · rw [go_zero h4, apart_perm h3, parents_perm h3]
    exact ⟨fun ⟨q1, q2⟩ => ⟨h1, fits_all l h2, q1, q2⟩, fun h => ⟨h.apart, h.there⟩⟩
theorem tree_perm {a b : List Itm} (h : a.Perm b) : TreeOk a ↔ TreeOk b := by
  constructor
  · intro t
    exact ⟨by rw [← h.length_eq]; exact t.len, fun x hx => t.fit x (h.mem_iff.2 hx), (apart_perm h).1 t.apart, (parents_perm h).1 t.there⟩
  · intro t
    exact ⟨by rw [h.length_eq]; exact t.len, fun x hx => t.fit x (h.mem_iff.1 hx), (apart_perm h).2 t.apart, (parents_perm h).2 t.there⟩
end Go.Proofs.YtaoejgnfoecpfaaDoor
namespace Go.Proofs.YtaoejgnfoecpfaaDoor
set_option linter.unusedVariables false
set_option linter.unusedSimpArgs false
set_option linter.unusedSectionVars false
open Go.RowKit

/-- the bytes of all files, as an int adds them up -/
def sizeW (l : List Itm) : Int := l.foldl (fun n x => if x.kind = 2 then IntKind.i64.wrap (n + (x.data.size : Int)) else n) 0
theorem sizeW_snoc (l : List Itm) (x : Itm) : sizeW (l ++ [x]) = if x.kind = 2 then IntKind.i64.wrap (sizeW l + (x.data.size : Int)) else sizeW l := by
  unfold sizeW
  rw [List.foldl_append]
  rfl
set_option maxRecDepth 100000 in
set_option maxHeartbeats 1600000 in
theorem wsize_any (A : Option Addr) (c : Nat) (l : List Itm) (w : World) (hi : ItmA w A l) (hl : l.length ≤ 9223372036854775807) :
    Calls Tryd.prog 40 #[.slice A l.length c] w fun e w' => e = .returned (.int .i64 (sizeW l)) ∧ Below w.heap.size w w' := by
  have HN := Lib.hid fun W (hb : Below w.heap.size w W) => hi.below hb
  clear hi
  go_enter Tryd.func40, Tryd.ntmps40
  go_wp2
  go_loopw [3, 8] (fun sv i wr => ∃ k : Nat, i = .int .i64 k ∧ sv = .int .i64 (sizeW (l.take k)) ∧ k ≤ l.length ∧ Hid (Below w.heap.size w wr)) (fun _ i _ => l.length - (intOf i).toNat)
  case atStart => exact ⟨0, rfl, rfl, Nat.zero_le _, Lib.hid (Below.refl _ _)⟩
  case round =>
    obtain ⟨k, rfl, rfl, hk, HB⟩ := hrel
    by_cases hkl : k < l.length
    · have hki : (k : Int) < (l.length : Int) := by omega
      have hs := sizeW_snoc (l.take k) l[k]
      rw [← List.take_succ_eq_append_getElem hkl] at hs
      obtain ⟨g, o, rfl, hg, hcc⟩ := HN.out wr HB.out (by omega)
      have hcx := hcc k l[k] (List.getElem?_eq_getElem hkl)
      clear hcc
      generalize l[k] = x at *
      obtain ⟨pa, ki, mo, ti, da⟩ := x
      have q0 : wr.cell? ⟨g, o + k * 5, none⟩ = some (.string pa) := hcx 0 _ rfl
      have q1 : wr.cell? ⟨g, o + k * 5 + 1, none⟩ = some (.int .i64 ki) := hcx 1 _ rfl
      have q2 : wr.cell? ⟨g, o + k * 5 + 2, none⟩ = some (.int .i64 mo) := hcx 2 _ rfl
      have q3 : wr.cell? ⟨g, o + k * 5 + 3, none⟩ = some (.int .i64 ti) := hcx 3 _ rfl
      have q4 : wr.cell? ⟨g, o + k * 5 + 4, none⟩ = some (.string da) := hcx 4 _ rfl
      clear hcx
      have HB2 := Lib.hid (HB.out.alloc HB.out.size (.cells #[.string pa, .int .i64 ki, .int .i64 mo, .int .i64 ti, .string da] 59))
      simp only at hs
      have HS := Lib.hid hs
      clear hs
      generalize sizeW (l.take k) = n0 at *
      obtain ⟨wv, hwv⟩ : ∃ wv, IntKind.i64.wrap (n0 + (da.size : Int)) = wv := ⟨_, rfl⟩
      by_cases hk2 : ki = 2
      · subst hk2
        have HS2 := Lib.hid (HS.out.trans ((if_pos rfl).trans hwv))
        go_wp2
        go_roundw
        case rel => exact ⟨k + 1, by go_num, by rw [HS2.out], by omega, HB2⟩
        case measure => simp [intOf]; omega
      · have hkq : (ki == 2) = false := by rw [beq_eq_false_iff_ne]; exact hk2
        have HS2 := Lib.hid (HS.out.trans (if_neg hk2))
        clear hk2
        go_wp2
        go_roundw
        case rel => exact ⟨k + 1, by go_num, by rw [HS2.out], by omega, HB2⟩
        case measure => simp [intOf]; omega
    · obtain rfl : k = l.length := by omega
      have hki : ¬ (l.length : Int) < (l.length : Int) := by omega
      rw [List.take_length]
      go_wp2
      go_ret
      exact ⟨rfl, HB.out⟩
end Go.Proofs.YtaoejgnfoecpfaaDoor
