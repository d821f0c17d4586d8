/- Rows of structs, and of texts, that came in as arguments, with the bound on what they lead to. NodeKinds: a record that came in as an argument. -/
import Derived.Test.YtaoejgnfoecpfaaDoorJk7
import Derived.WalkKit
import Derived.ProofKit
import Derived.OpenShut
import Derived.ChangeOld
import Derived.ChangeMaps5
import Derived.SliceStrings
import Derived.Deep.Slices
import Derived.Deep.Fields
import Derived.Deep.Grids
import Derived.ChangeSame
import Derived.SizedLaws
import Derived.Test.YtaoejgnfoecpfaaDoorJk18
import Derived.Lib.SmallJoins
namespace Go.Proofs.YtaoejgnfoecpfaaDoor
set_option linter.unusedVariables false
set_option linter.unusedSimpArgs false
set_option linter.unusedSectionVars false
open Go.RowKit Go.Maps Go.ChangeShapes Go.WideShapes Go.ChangeAt Go.Deep

theorem laidOut : laidOutB Tryd.prog = true := by kernel_rfl
theorem addr_addx (x : Addr) (hx : x.spot = none) (i : Nat) : x.add i = ⟨x.block, x.off + i, none⟩ := by
  unfold Addr.add
  obtain ⟨g, o, s⟩ := x
  simp only at hx
  subst hx
  split <;> simp_all
/-- from 'for every place there is one' to a list -/
theorem list_of {α : Type} {p : Nat → α → Prop} : ∀ {n : Nat}, (∀ i, i < n → ∃ x, p i x) → ∃ l : List α, l.length = n ∧ ∀ i (h : i < l.length), p i l[i]
  | 0, _ => ⟨[], rfl, fun i h => absurd h (by simp)⟩
  | n + 1, h => by
    obtain ⟨l, hl, hp⟩ := list_of (n := n) fun i hi => h i (by omega)
    obtain ⟨x, hx⟩ := h n (by omega)
    refine ⟨l ++ [x], by simp [hl], fun i hi => ?_⟩
    by_cases hlt : i < l.length
    · rw [List.getElem_append_left hlt]; exact hp i hlt
    · have : i = n := by simp at hi; omega
      subst this
      rw [List.getElem_append_right (by omega)]
      simpa [hl] using hx

/-- a row of elements of so many cells, each of which tells an x -/
def RowS {α : Type} (w : World) (size : Nat) (dec : Array Value → α → Prop) (v : Value) (l : List α) : Prop :=
  ∃ a c, v = .slice a l.length c ∧ l.length ≤ 9223372036854775807 ∧ ∀ i (h : i < l.length), ∃ b o cs, a = some ⟨b, o, none⟩ ∧ b < w.heap.size ∧ dec cs l[i] ∧ ∀ (j : Nat) u, cs[j]? = some u → w.cell? ⟨b, o + i * size + j, none⟩ = some u

theorem weightsAll_mem {H : Type} {P : Program} {e : TypeId} : ∀ {l : List (DataW H)} {x : DataW H} {n : Nat}, x ∈ l → n ∈ x.weights P e → n ∈ DataW.weightsAll P e l
  | y :: r, x, n, hx, hn => by
    simp only [DataW.weightsAll, List.mem_append]
    rcases List.mem_cons.1 hx with rfl | hx
    · exact Or.inl hn
    · exact Or.inr (weightsAll_mem hx hn)

section
variable {H : Type} {enc : TypeId × Value → H} {W : World} {base base' : Nat} {v : Value} {d : DataW H} {p : List MemPlace}

set_option maxRecDepth 100000 in
/-- a row of structs whose fields are of one cell each, out of one cell -/
theorem rows_sized {α : Type} {t e : TypeId} {fs : Array Field} (dec : Array Value → α → Prop) (ht : Tryd.prog.underlying t = some (.slice e)) (he : Tryd.prog.underlying e = some (.struct fs))
    (hpos : 0 < fs.size) (hone : oneCellFields Tryd.prog fs = true) (hC : Tryd.prog.cellsOf e = fs.size) {fu : Nat} {y : DataW H × List MemPlace} (h : DataW.trod enc Tryd.prog W base' (fun _ => true) true fu t [v] = some y) (hwt : ∀ n ∈ y.1.weights Tryd.prog t, n ≤ reachBytes)
    (hdec : ∀ cs : Array Value, cs.size = fs.size → (∀ (j : Nat) (f : Field), fs[j]? = some f → ∃ u n y, cs[j]? = some u ∧ DataW.trod enc Tryd.prog W base' (fun _ => true) true n f.type [u] = some y ∧ ∀ n ∈ y.1.weights Tryd.prog f.type, n ≤ reachBytes) → ∃ x, dec cs x) :
    ∃ l, RowS W fs.size dec v l ∧ l.length * Tryd.prog.bytesOf e ≤ reachBytes := by
  obtain ⟨d, p⟩ := y
  rcases open_slice ht h with ⟨hcs, _⟩ | ⟨a, len0, cap0, m, n, D, Pl, hcs, hb, hl, hm, hmm, hx0, hi⟩
  · simp at hcs
    subst hcs
    exact ⟨[], ⟨none, 0, rfl, by simp, fun i h => absurd h (by simp)⟩, by simp⟩
  · simp at hcs
    subst hcs
    simp only [if_true] at hmm
    simp only [Prod.mk.injEq] at hx0
    have hx : ∀ i, i < len0 → ∃ x, ∃ b o cs, a = ⟨b, o, none⟩ ∧ b < W.heap.size ∧ dec cs x ∧ ∀ (j : Nat) u, cs[j]? = some u → W.cell? ⟨b, o + i * fs.size + j, none⟩ = some u := by
      intro i hil
      obtain ⟨cs', hc, ht'⟩ := hi i (by omega)
      rw [hC] at hc
      obtain ⟨ys, n', _, hyD, hlen, hyl, hfy⟩ := DataW.trod_struct he ht'
      simp only [Prod.mk.injEq] at hyD
      obtain ⟨_, hcl, hat⟩ := World.cells?_some hc
      have hsz : cs'.toArray.size = fs.size := by simpa using hcl
      have hfield : ∀ (j : Nat) (f : Field), fs[j]? = some f → ∃ u n y, cs'.toArray[j]? = some u ∧ DataW.trod enc Tryd.prog W base' (fun _ => true) true n f.type [u] = some y ∧ ∀ n ∈ y.1.weights Tryd.prog f.type, n ≤ reachBytes := by
        intro j f hj
        obtain ⟨ho, hk⟩ := hone_of hone j f hj
        have hjl : j < fs.size := (Array.getElem?_eq_some_iff.1 hj).1
        have hvj : cs'[j]? = some (cs'[j]'(by omega)) := List.getElem?_eq_getElem (by omega)
        have h1 := hfy j f hj
        rw [ho, hk] at h1
        have hone' : (cs'.drop j).take 1 = [cs'[j]'(by omega)] := by
          rw [List.drop_eq_getElem_cons (by omega)]
          rfl
        rw [hone'] at h1
        have hys : ys[j]? = some (ys[j]'(by omega)) := List.getElem?_eq_getElem (by omega)
        refine ⟨_, n', _, by simp, h1.trans hys, fun q hq => hwt q ?_⟩
        rw [hx0.1]
        have h2 : q ∈ (D i).weights Tryd.prog e := by
          rw [hyD.1]
          simp only [DataW.weights, he]
          exact DataW.weights_mem_each (j := j) (t := f.type) (by simp [hj]) (by simp [hys]) q hq
        have h3 : q ∈ DataW.weightsAll Tryd.prog e ((List.range len0).map D) := weightsAll_mem (List.mem_map.2 ⟨i, List.mem_range.2 hil, rfl⟩) h2
        simp only [DataW.weights, ht]
        exact List.mem_cons_of_mem _ (List.mem_append.2 (Or.inl h3))
      obtain ⟨x, hd⟩ := hdec cs'.toArray hsz hfield
      have hcell : ∀ (j : Nat) u, cs'.toArray[j]? = some u → W.cell? (a.add (i * fs.size + j)) = some u := by
        intro j u hj
        have hjl : j < fs.size := by
          have := (Array.getElem?_eq_some_iff.1 hj).1
          omega
        have := hat j hjl
        rw [← Go.Deep.add_add, this]
        simpa using hj
      have h00 := hcell 0 (cs'[0]'(by omega)) (by simp)
      have hsp : a.spot = none := by
        obtain ⟨c0, hc0, _⟩ := hi 0 (by omega)
        rw [hC] at hc0
        obtain ⟨_, hcl0, hat0⟩ := World.cells?_some hc0
        have h1 := hat0 0 (by omega)
        have h2 : c0[0]? = some (c0[0]'(by omega)) := List.getElem?_eq_getElem (by omega)
        rw [h2] at h1
        have h3 := World.cell?_spot h1
        unfold Addr.add at h3
        simpa using h3
      have hae : a = ⟨a.block, a.off, none⟩ := by
        obtain ⟨g, o, s⟩ := a
        simp only at hsp
        subst hsp; rfl
      have hlt : a.block < W.heap.size := by
        have := World.block_lt_of_cell? _ _ h00
        rw [addr_addx a hsp] at this
        exact this
      refine ⟨x, a.block, a.off, cs'.toArray, hae, hlt, hd, fun j u hj => ?_⟩
      have := hcell j u hj
      rw [addr_addx a hsp] at this
      rw [Nat.add_assoc]; exact this
    obtain ⟨l, hll, hlp⟩ := list_of hx
    have hby : len0 * Tryd.prog.bytesOf e ≤ reachBytes := by
      have h1 := hwt ((((List.range len0).map D).length + ((List.range (m - len0)).map fun j => D (len0 + j)).length) * Tryd.prog.bytesOf e) (by
        rw [hx0.1]
        simp only [DataW.weights, ht]
        exact List.mem_cons_self ..)
      refine Nat.le_trans (Nat.mul_le_mul_right _ ?_) h1
      simp
    refine ⟨l, ⟨some a, cap0, by rw [hll], by rw [hll]; simp only [maxLen] at hm; omega, fun i h => ?_⟩, by rw [hll]; exact hby⟩
    obtain ⟨b, o, cs, h1, h2, h3, h4⟩ := hlp i h
    exact ⟨b, o, cs, by rw [h1], h2, h3, h4⟩

theorem string_sized {t : TypeId} {n : Nat} {y : DataW H × List MemPlace} (ht : Tryd.prog.underlying t = some .string) (h : DataW.trod enc Tryd.prog W base' (fun _ => true) true n t [v] = some y) (hwt : ∀ n ∈ y.1.weights Tryd.prog t, n ≤ reachBytes) : ∃ s : ByteArray, v = .string s ∧ s.size ≤ 140737488355328 := by
  obtain ⟨k, hcs, hy, hw⟩ := DataW.trod_string ht h
  simp at hcs
  subst hy
  refine ⟨k, hcs, ?_⟩
  have h2 := hwt k.data.toList.length (by simp [DataW.weights])
  unfold reachBytes at h2
  have h3 : k.data.toList.length = k.size := by rw [Array.length_toList]; rfl
  omega
theorem int_trod {t : TypeId} {n : Nat} {y : DataW H × List MemPlace} (ht : Tryd.prog.underlying t = some (.int .i64)) (h : DataW.trod enc Tryd.prog W base' (fun _ => true) true n t [v] = some y) : ∃ k : Int, v = .int .i64 k ∧ -9223372036854775808 ≤ k ∧ k ≤ 9223372036854775807 := by
  obtain ⟨k, hcs, _, hw⟩ := DataW.trod_int ht h
  simp at hcs
  subst hcs
  have h2 : (decide (IntKind.i64.min ≤ k) && decide (k ≤ IntKind.i64.max)) = true := hw
  simp only [Bool.and_eq_true, decide_eq_true_eq] at h2
  exact ⟨k, rfl, h2⟩
theorem bool_trod {t : TypeId} {n : Nat} {y : DataW H × List MemPlace} (ht : Tryd.prog.underlying t = some .bool) (h : DataW.trod enc Tryd.prog W base' (fun _ => true) true n t [v] = some y) : ∃ k : Bool, v = .bool k := by
  obtain ⟨k, hcs, _⟩ := DataW.trod_bool ht h
  simp at hcs
  exact ⟨k, hcs⟩

set_option maxRecDepth 100000 in
theorem okWide_cells {t e : TypeId} (ht : Tryd.prog.underlying t = some (.slice e)) (hv : Value.okWide Tryd.prog W .any base t v) : v.cells.toList = [v] := by
  obtain ⟨a0, len0, cap0, rfl⟩ := okWide_slice ht hv
  simp [Value.cells]
set_option maxRecDepth 100000 in
theorem reach47 {n : Nat} (h : n ≤ reachBytes) : n ≤ 140737488355328 := Nat.le_trans h (by decide)
theorem arr_len {cs : Array Value} {l : List Value} (hs : cs.size = l.length) (h : ∀ (j : Nat) u, l[j]? = some u → cs[j]? = some u) : cs = l.toArray := by
  apply Array.ext
  · simpa using hs
  · intro i h1 h2
    have h3 : i < l.length := by simpa using h2
    have := h i l[i] (List.getElem?_eq_getElem h3)
    rw [Array.getElem?_eq_getElem h1] at this
    simpa using this
set_option maxRecDepth 100000 in
/-- a row of texts, out of a field -/
theorem strs_sized {fu : Nat} {y : DataW H × List MemPlace} (h : DataW.trod enc Tryd.prog W base' (fun _ => true) true fu 50 [v] = some y) (hwt : ∀ n ∈ y.1.weights Tryd.prog 50, n ≤ reachBytes) :
    ∃ (l : List ByteArray) (B : Option Addr) (c : Nat), v = .slice B l.length c ∧ StrsA W W.heap.size B l ∧ l.length ≤ c ∧ (B = none → c = 0) ∧ l.length * 16 ≤ 140737488355328 ∧ ∀ s ∈ l, s.size ≤ 140737488355328 := by
  rcases open_strings Tryd.underlying50 Tryd.underlying9 (by kernel_rfl) h with ⟨hcs, _⟩ | ⟨x, l, c, zs, hcs, _, hl, hm, hz, hy, hcell, hwz⟩
  · obtain rfl : v = .slice none 0 0 := by simpa using hcs
    exact ⟨[], none, 0, rfl, fun h => absurd h (Nat.lt_irrefl 0), Nat.le_refl _, fun _ => rfl, Nat.zero_le _, fun s hs => by cases hs⟩
  · obtain rfl : v = .slice (some x) l c := by simpa using hcs
    simp only [if_true] at hz
    subst hy
    have hw0 := hwt
    simp only [DataW.weights, Tryd.underlying50, strs, List.length_map, List.length_take, List.length_drop] at hwt
    have s3 := reach47 (hwt ((min l zs.length + (zs.length - l)) * Tryd.prog.bytesOf 9) (by simp))
    rw [show Tryd.prog.bytesOf 9 = 16 by kernel_rfl] at s3
    have hlen : (zs.take l).length = l := by rw [List.length_take]; omega
    refine ⟨zs.take l, some x, c, by rw [hlen], fun h0 => ?_, by rw [hlen]; exact hl, fun hx => (by cases hx), by rw [hlen]; omega, fun s hs => ?_⟩
    · rw [hlen] at h0
      have hsp := World.cell?_spot (hcell 0 (by omega))
      have hsp' : x.spot = none := by
        unfold Addr.add at hsp; simpa using hsp
      have hc0 := hcell 0 (by omega)
      rw [addr_addx x hsp'] at hc0
      refine ⟨x.block, x.off, ?_, (World.block_lt_of_cell? _ _ hc0 : (⟨x.block, x.off + 0, none⟩ : Addr).block < _), fun j u hj => ?_⟩
      · obtain ⟨g, o, s⟩ := x
        simp only at hsp'
        subst hsp'; rfl
      · have hjl : j < (zs.take l).length := (List.getElem?_eq_some_iff.1 hj).1
        have hc := hcell j (by omega)
        rw [addr_addx x hsp'] at hc
        rw [hc]
        rw [List.getElem?_take_of_lt (by omega)] at hj
        rw [List.getD, hj]; rfl
    · have h2 := hw0 s.data.toList.length (by
        simp only [DataW.weights, Tryd.underlying50]
        exact List.mem_cons_of_mem _ (List.mem_append.2 (Or.inl (weightsAll_mem (List.mem_map.2 ⟨s, hs, rfl⟩) (by simp [DataW.weights])))))
      have h3 : s.data.toList.length = s.size := by rw [Array.length_toList]; rfl
      have := reach47 h2
      omega
end
end Go.Proofs.YtaoejgnfoecpfaaDoor
namespace Go.Proofs.YtaoejgnfoecpfaaDoor
set_option linter.unusedVariables false
set_option linter.unusedSimpArgs false
set_option linter.unusedSectionVars false
open Go.RowKit Go.Maps Go.ChangeShapes Go.WideShapes Go.ChangeAt Go.Deep

def RecP (w : World) (v : Value) (x : Nr) : Prop := ∃ A c, v = .agg (recC x A c) ∧ StrsA w w.heap.size A x.chunks ∧ (A = none → c = 0) ∧ x.target.size ≤ 140737488355328 ∧ x.chunks.length * 16 ≤ 140737488355328
section
variable {H : Type} {enc : TypeId × Value → H} {W : World} {base base' : Nat} {v : Value} {d : DataW H} {p : List MemPlace}
/-- a struct of seven cells: its values and what each reads as -/
theorem seven_in {P : Program} {t : TypeId} {f0 f1 f2 f3 f4 f5 f6 : Field} (hs : P.underlying t = some (.struct #[f0, f1, f2, f3, f4, f5, f6])) (hone : oneCellFields P #[f0, f1, f2, f3, f4, f5, f6] = true) (hC : P.cellsOf t = 7)
    (hv : Value.okWide P W .any base t v) (h : DataW.Trod enc P W base' (fun _ => true) true t v d p) :
    ∃ (c0 c1 c2 c3 c4 c5 c6 : Value) (y0 y1 y2 y3 y4 y5 y6 : DataW H × List MemPlace) (n : Nat), v = .agg #[c0, c1, c2, c3, c4, c5, c6] ∧ d = .agg [y0.1, y1.1, y2.1, y3.1, y4.1, y5.1, y6.1] ∧
      DataW.trod enc P W base' (fun _ => true) true n f0.type [c0] = some y0 ∧ DataW.trod enc P W base' (fun _ => true) true n f1.type [c1] = some y1 ∧ DataW.trod enc P W base' (fun _ => true) true n f2.type [c2] = some y2 ∧
      DataW.trod enc P W base' (fun _ => true) true n f3.type [c3] = some y3 ∧ DataW.trod enc P W base' (fun _ => true) true n f4.type [c4] = some y4 ∧ DataW.trod enc P W base' (fun _ => true) true n f5.type [c5] = some y5 ∧ DataW.trod enc P W base' (fun _ => true) true n f6.type [c6] = some y6 := by
  obtain ⟨cs, rfl, hsz⟩ := okWide_struct hs hv
  obtain ⟨l⟩ := cs
  match l, hsz.trans hC with
  | [c0, c1, c2, c3, c4, c5, c6], _ =>
    obtain ⟨fuel, hf⟩ := h
    obtain ⟨xs, n, _, hx, _, hlen, hg⟩ := DataW.trod_struct hs hf
    obtain ⟨o0, k0⟩ := hone_of hone 0 f0 rfl
    obtain ⟨o1, k1⟩ := hone_of hone 1 f1 rfl
    obtain ⟨o2, k2⟩ := hone_of hone 2 f2 rfl
    obtain ⟨o3, k3⟩ := hone_of hone 3 f3 rfl
    obtain ⟨o4, k4⟩ := hone_of hone 4 f4 rfl
    obtain ⟨o5, k5⟩ := hone_of hone 5 f5 rfl
    obtain ⟨o6, k6⟩ := hone_of hone 6 f6 rfl
    match xs, hlen with
    | [y0, y1, y2, y3, y4, y5, y6], _ =>
      simp only [Prod.mk.injEq] at hx
      exact ⟨c0, c1, c2, c3, c4, c5, c6, y0, y1, y2, y3, y4, y5, y6, n, rfl, by simpa using hx.1, by simpa [Value.cells, o0, k0] using hg 0 f0 rfl, by simpa [Value.cells, o1, k1] using hg 1 f1 rfl, by simpa [Value.cells, o2, k2] using hg 2 f2 rfl,
        by simpa [Value.cells, o3, k3] using hg 3 f3 rfl, by simpa [Value.cells, o4, k4] using hg 4 f4 rfl, by simpa [Value.cells, o5, k5] using hg 5 f5 rfl, by simpa [Value.cells, o6, k6] using hg 6 f6 rfl⟩

set_option maxRecDepth 100000 in
theorem rec_in (hv : Value.okWide Tryd.prog W .any base 72 v) (h : DataW.Trod enc Tryd.prog W base' (fun _ => true) true 72 v d p)
    (hw : ∀ n ∈ d.weights Tryd.prog 72, n ≤ reachBytes) : ∃ x, RecP W v x := by
  obtain ⟨c0, c1, c2, c3, c4, c5, c6, y0, y1, y2, y3, y4, y5, y6, n, rfl, rfl, h0, h1, h2, h3, h4, h5, h6⟩ := seven_in Tryd.underlying72 (by kernel_rfl) (by kernel_rfl) hv h
  rw [DataW.weights] at hw
  rw [Tryd.underlying72] at hw
  simp only [List.map_cons, List.map_nil, DataW.weightsEach, List.mem_append, List.not_mem_nil, or_false] at hw
  obtain ⟨kk, rfl, _⟩ := int_trod Tryd.underlying3 h0
  obtain ⟨at_, rfl, z1⟩ := string_sized Tryd.underlying9 h1 (fun n hn => hw n (by simp [hn]))
  obtain ⟨md, rfl, z2⟩ := int_trod Tryd.underlying3 h2
  obtain ⟨tm, rfl, z3⟩ := int_trod Tryd.underlying3 h3
  obtain ⟨sz, rfl, z4⟩ := int_trod Tryd.underlying3 h4
  obtain ⟨ch, B, c, rfl, k1, k2, k3, k4, k5⟩ := strs_sized h5 (fun n hn => hw n (by simp [hn]))
  obtain ⟨tg, rfl, z6⟩ := string_sized Tryd.underlying9 h6 (fun n hn => hw n (by simp [hn]))
  exact ⟨⟨kk, at_, md, tm, sz, ch, tg⟩, B, c, rfl, k1, k3, z6, k4⟩
end
theorem nkinds_card (x : Nr) (v : Value) (w : World) (he : Env w) (h : RecP w v x) :
    Calls Tryd.prog 8 #[v] w fun e w' => e = .returned (.bool true) ∧ Below w.heap.size w w' := by
  obtain ⟨k, a, m, t, z, ch, tg⟩ := x
  obtain ⟨A, c, rfl, hs, hn, hb, hc⟩ := h
  by_cases hk : k = 2
  · subst hk
    exact nkinds_two a tg m t z ch A c w he hs hn hb hc
  · exact nkinds_other k a tg m t z ch A c w he hs hn hb hc hk
end Go.Proofs.YtaoejgnfoecpfaaDoor
