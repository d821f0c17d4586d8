/- walk.Sort, walked: what it gives. -/
import Derived.Test.YtaoejgnfoecpfaaDoorJw9
namespace Go.Proofs.YtaoejgnfoecpfaaDoor
set_option linter.unusedVariables false
set_option linter.unusedSimpArgs false
set_option linter.unusedSectionVars false
open Go Go.RowKit Go.Sort Go.Shelf

theorem lift_items : ∀ (xs : List Itm), (∀ x ∈ xs, x.path.size ≤ 1000000) → ∃ ps : List PIt, ps.map PIt.it = xs
  | [], _ => ⟨[], rfl⟩
  | x :: r, h => by
    obtain ⟨ps, hp⟩ := lift_items r fun y hy => h y (by simp [hy])
    exact ⟨⟨x, h x (by simp)⟩ :: ps, by rw [List.map_cons, hp]⟩
theorem get_itmsC : ∀ (xs : List Itm) (j : Nat), j < xs.length * 5 → ∃ x, xs[j / 5]? = some x ∧ (itmsC xs)[j]? = (itmC x)[j % 5]?
  | [], j, h => absurd h (by simp)
  | x :: r, j, h => by
    have e : itmsC (x :: r) = itmC x ++ itmsC r := rfl
    have hl : (itmC x).length = 5 := rfl
    by_cases h5 : j < 5
    · refine ⟨x, by rw [Nat.div_eq_of_lt h5]; rfl, ?_⟩
      rw [e, List.getElem?_append_left (by omega), Nat.mod_eq_of_lt h5]
    · obtain ⟨i, rfl⟩ : ∃ i, j = i + 5 := ⟨j - 5, by omega⟩
      rw [List.length_cons] at h
      obtain ⟨y, h1, h2⟩ := get_itmsC r i (by omega)
      refine ⟨y, ?_, ?_⟩
      · rw [show (i + 5) / 5 = i / 5 + 1 by omega, List.getElem?_cons_succ]
        exact h1
      · rw [e, List.getElem?_append_right (by omega), hl, Nat.add_sub_cancel, h2, Nat.add_mod_right]
theorem own_holds {w : World} {B g c : Nat} {xs : List Itm} {ps : List PIt} (hp : ps.map PIt.it = xs) (h : w.ownsRow B 59 5 (.slice (some ⟨g, 0, none⟩) xs.length c) xs.length (itmsC xs)) : HoldsK pitC 5 w g 0 ps.toArray := by
  intro j hj
  rw [size_flatK] at hj
  have hl : ps.length = xs.length := by rw [← hp, List.length_map]
  rw [List.size_toArray, hl] at hj
  rcases h.2 with ⟨hv, _⟩ | ⟨g', cap, cur, hv, _, hg, hc1, hc2, hc3, htake⟩
  · cases hv
  · simp only [Value.slice.injEq, Option.some.injEq, Addr.mk.injEq] at hv
    obtain ⟨⟨rfl, _⟩, _, rfl⟩ := hv
    refine ⟨?_, by simp [World.frozen?, hg]⟩
    have hcell : w.cell? ⟨g, 0 + j, none⟩ = cur[j]? := by
      rw [Nat.zero_add]
      exact cell_of_row w g j cur _ _ hg
    have h2 : (itmsC xs)[j]? = cur[j]? := by
      rw [← htake, List.getElem?_take, if_pos (by omega)]
      simp
    rw [hcell, ← h2]
    obtain ⟨x, hx, hx2⟩ := get_itmsC xs j hj
    have hd : j / 5 < ps.length := by omega
    have hpx : ps[j / 5].it = x := by
      rw [← hp, List.getElem?_map, List.getElem?_eq_getElem hd] at hx
      exact Option.some.inj hx
    rw [hx2, get_flatK _ _ _ _ (by rw [List.size_toArray, hl]; exact hj)]
    have e1 : ps.toArray[j / 5]! = ps[j / 5] := by
      rw [getElem!_pos ps.toArray (j / 5) (by simpa using hd)]
      simp
    rw [e1]
    unfold pitC
    rw [hpx]
    have h5 : j % 5 < (itmC x).length := Nat.mod_lt _ (by decide)
    rw [List.getElem?_eq_getElem h5, getElem!_pos (itmC x) (j % 5) h5]
    rfl
/-- in order -/
def SortedI (l : List Itm) : Prop := l.Pairwise fun x y => cmpL (partsP x.path) (partsP y.path) ≤ 0
def SortPost (xs : List Itm) (w : World) (e : Ending) (w' : World) : Prop :=
  ∃ A c ys, e = .returned (.slice A ys.length c) ∧ ItmA w' A ys ∧ ys.Perm xs ∧ SortedI ys ∧ ys.length = xs.length ∧ Below w.heap.size w w'
theorem holds_items {w : World} {g : Nat} {d : Array PIt} (h : HoldsK pitC 5 w g 0 d) (hg : g < w.heap.size) : ItmA w (some ⟨g, 0, none⟩) (d.toList.map PIt.it) := fun _ => by
  refine ⟨g, 0, rfl, hg, fun i x hi j u hj => ?_⟩
  rw [List.getElem?_map] at hi
  obtain ⟨p, hp, rfl⟩ := Option.map_eq_some_iff.1 hi
  have hid : i < d.size := by
    have := (List.getElem?_eq_some_iff.1 hp).1
    simpa using this
  have hj5 : j < 5 := (List.getElem?_eq_some_iff.1 hj).1
  rw [(HoldsK.cell h hid hj5).1]
  have e1 : d[i]! = p := by
    rw [getElem!_pos d i hid]
    rw [List.getElem?_eq_getElem (by simpa using hid)] at hp
    simpa using hp
  rw [e1]
  have h5 : j < (pitC p).length := hj5
  rw [getElem!_pos (pitC p) j h5]
  have : (itmC p.it)[j]? = some (pitC p)[j] := List.getElem?_eq_getElem h5
  rw [this] at hj
  exact hj
theorem sorted_items {d : Array PIt} (h : SortedIn (ltOf cfP) 0 d.size d) : SortedI (d.toList.map PIt.it) := by
  unfold SortedI
  rw [List.pairwise_iff_getElem]
  intro i j hi hj hij
  simp only [List.length_map, Array.length_toList] at hi hj
  have h1 := h i j (Nat.zero_le _) hij hj
  unfold ltOf cfP at h1
  rw [getElem!_pos d i hi, getElem!_pos d j hj] at h1
  simp only [decide_eq_false_iff_not] at h1
  have h2 := cmpL_turn (partsP d[i].it.path) (partsP d[j].it.path)
  simp only [List.getElem_map, Array.getElem_toList]
  omega
theorem permIn_all_list {d d' : Array PIt} (h : PermIn 0 d.size d d') : d'.toList.Perm d.toList := by
  have h2 := h.2.2
  have e : d'.extract 0 d.size = d' := by rw [← h.1]; exact Array.extract_size
  rw [e, Array.extract_size] at h2
  exact h2
set_option maxRecDepth 100000 in
set_option maxHeartbeats 1600000 in
theorem wsort_any (A : Option Addr) (c : Nat) (xs : List Itm) (w : World) (he : Env w) (hi : ItmA w A xs) (hp : ∀ x ∈ xs, x.path.size ≤ 1000000) (hn : xs.length * 56 ≤ 140737488355328) :
    Calls Tryd.prog 76 #[.slice A xs.length c] w (SortPost xs w) := by
  obtain ⟨ps, hps⟩ := lift_items xs hp
  have hpl : ps.length = xs.length := by rw [← hps, List.length_map]
  have hb1 := (Below.refl w.heap.size w).alloc (Nat.le_refl _) (.cells #[.slice A xs.length c] 49)
  have hcb : (w.alloc (.cells #[.slice A xs.length c] 49)).cell? ⟨w.heap.size, 0, none⟩ = some (.slice A xs.length c) := oneNew_cell w _ _
  -- Collect
  have h133 := callsIn_wide.1 (appseq_any w.heap.size A c xs _ hcb (hi.below hb1) hn)
  -- SortStableFunc, at what was collected
  have hsort : ∀ (A' : Option Addr) (c' : Nat) (w1 : World), w1.ownsRow (w.heap.size + 1) 59 5 (.slice A' xs.length c') xs.length (itmsC xs) → Env w1 → Below w.heap.size w w1 → Calls Tryd.prog 134 #[.slice A' xs.length c', .int .i64 xs.length, .func (.func 90) #[] #[]] w1 fun e w' => e = .returned (.tuple #[]) ∧ ∃ ys, ys.length = xs.length ∧ ItmA w' A' ys ∧ ys.Perm xs ∧ SortedI ys ∧ Below w.heap.size w w' := by
    intro A' c' w1 hown he1 hbw
    have hcase := hown.2
    rcases hcase with ⟨hv, h0⟩ | ⟨g, cap, cur, hv, hg0, hg, _⟩
    · simp only [Value.slice.injEq] at hv
      obtain ⟨rfl, h00, rfl⟩ := hv
      have hx : xs = [] := List.length_eq_zero_iff.1 h0
      subst hx
      refine (stable_none w1 _).mono fun e w' ⟨q1, q2⟩ => ?_
      subst q2
      exact ⟨q1, [], rfl, fun h => absurd h (by simp), List.Perm.refl _, List.Pairwise.nil, hbw⟩
    · simp only [Value.slice.injEq] at hv
      obtain ⟨rfl, _, rfl⟩ := hv
      have hH := own_holds hps hown
      have hglt : g < w1.heap.size := (Array.getElem?_eq_some_iff.1 hg).1
      have hst := stable_any g 0 c' ps.toArray w1 he1.1 (by omega) hH hglt (by rw [List.size_toArray, hpl]; omega)
      rw [List.size_toArray, hpl] at hst
      refine hst.mono ?_
      rintro e w' ⟨q1, d', ⟨q, os, rfl⟩, q3, q4⟩
      have hpz : ps.toArray.size = xs.length := by rw [List.size_toArray, hpl]
      have hd' : d'.size = xs.length := q3.1.trans hpz
      refine ⟨q1, d'.toList.map PIt.it, ?_, ?_, ?_, ?_, ?_⟩
      · rw [List.length_map, Array.length_toList]
        exact hd'
      · refine holds_items ?_ (Nat.lt_of_lt_of_le hglt (size_sortWorldK_c pitC 5 w1 g 0 q d' os))
        exact holdsK_sortWorldK_c pitC 5 w1 g 0 ps.toArray d' q os hH hglt (hd'.trans hpz.symm)
      · have := permIn_all_list (d := ps.toArray) (d' := d') (by rw [hpz]; exact q3)
        rw [← hps]
        exact this.map PIt.it
      · rw [← hd'] at q4
        exact sorted_items q4
      · exact hbw.trans ((sortW_below (B := w.heap.size) (by omega) hglt))
  have HB1 := Lib.hid hb1
  have HA := Lib.hid h133
  have HS := Lib.hid hsort
  have HE := Lib.hid he
  clear hb1 h133 hsort he hcb hps hpl hi hp
  have hcol : Calls Tryd.prog 120 #[.func (.func 122) #[] #[.pointer (some ⟨w.heap.size, 0, none⟩)]] (w.alloc (.cells #[.slice A xs.length c] 49)) fun e w' => ∃ A' c', e = .returned (.slice A' xs.length c') ∧ w'.ownsRow (w.heap.size + 1) 59 5 (.slice A' xs.length c') xs.length (itmsC xs) ∧ Below w.heap.size w w' := by
    go_enter Tryd.func120, Tryd.ntmps120
    go_wp2_with fail
    refine HA.out.mono ?_
    rintro e w1 ⟨A', c', rfl, h2, h3⟩
    rw [World.size_alloc] at h2 h3
    have H2 := Lib.hid h2
    have H3 := Lib.hid h3
    clear h2 h3
    go_wp2
    go_ret
    exact ⟨A', c', rfl, H2.out, HB1.out.trans (H3.out.mono (by omega))⟩
  have HC := Lib.hid hcol
  clear hcol
  have hss : ∀ (A' : Option Addr) (c' : Nat) (w1 : World), w1.ownsRow (w.heap.size + 1) 59 5 (.slice A' xs.length c') xs.length (itmsC xs) → Below w.heap.size w w1 → Calls Tryd.prog 121 #[.slice A' xs.length c', .func (.func 90) #[] #[]] w1 fun e w' => e = .returned (.tuple #[]) ∧ ∃ ys, ys.length = xs.length ∧ ItmA w' A' ys ∧ ys.Perm xs ∧ SortedI ys ∧ Below w.heap.size w w' := by
    intro A' c' w1 h2 h3
    have H2 := Lib.hid (HS.out A' c' w1 h2 (HE.out.below h3) h3)
    clear h2 h3
    go_enter Tryd.func121, Tryd.ntmps121
    go_wp2_with fail
    refine H2.out.mono ?_
    rintro e w2 ⟨rfl, h4⟩
    have H4 := Lib.hid h4
    clear h4
    go_wp2
    go_end0
    exact ⟨rfl, H4.out⟩
  have HSS := Lib.hid hss
  clear hss
  have hssf : Calls Tryd.prog 107 #[.func (.func 122) #[] #[.pointer (some ⟨w.heap.size, 0, none⟩)], .func (.func 90) #[] #[]] (w.alloc (.cells #[.slice A xs.length c] 49)) (SortPost xs w) := by
    go_enter Tryd.func107, Tryd.ntmps107
    go_wp2_with fail
    refine HC.out.mono ?_
    rintro e w1 ⟨A', c', rfl, h2, h3⟩
    have H5 := Lib.hid (HSS.out A' c' w1 h2 h3)
    clear h2 h3
    go_wp2_with fail
    refine H5.out.mono ?_
    rintro e w2 ⟨rfl, ys, k1, k2, k3, k4, k5⟩
    have HK := Lib.hid (And.intro k1 (And.intro k2 (And.intro k3 (And.intro k4 k5))))
    clear k1 k2 k3 k4 k5
    go_wp2
    go_ret
    obtain ⟨k1, k2, k3, k4, k5⟩ := HK.out
    exact ⟨A', c', ys, by rw [k1]; rfl, k2, k3, k4, k1, k5⟩
  have HF := Lib.hid hssf
  clear hssf
  go_enter Tryd.func76, Tryd.ntmps76
  go_wp2_with fail
  refine (values_any A xs.length c w).mono ?_
  rintro e w1 ⟨rfl, rfl⟩
  go_wp2_with fail
  refine HF.out.mono ?_
  rintro e w2 ⟨A', c', ys, rfl, h2⟩
  have H2 := Lib.hid h2
  clear h2
  go_wp2
  go_ret
  exact ⟨A', c', ys, rfl, H2.out⟩
end Go.Proofs.YtaoejgnfoecpfaaDoor
