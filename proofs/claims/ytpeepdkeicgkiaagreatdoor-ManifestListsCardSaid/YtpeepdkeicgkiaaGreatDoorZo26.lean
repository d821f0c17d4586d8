/- Rows of structs, and of texts, that came in as arguments, with the bound on what they lead to. Rows of manifests, of truth values, of numbers that came in as arguments. ManifestGoes: plain law. append of one element whose elder slice is read on: it keeps its cells. -/
import Derived.Test.YtpeepdkeicgkiaaGreatDoorZo25
import Derived.WalkKit
import Derived.ProofKit
import Derived.OpenShut
import Derived.ChangeOld
import Derived.ChangeMaps5
import Derived.SliceStrings
import Derived.Deep.Slices
import Derived.Deep.Fields
import Derived.Deep.Grids
import Derived.ChangeSame
import Derived.SizedLaws
namespace Go.Proofs.YtpeepdkeicgkiaaGreatDoor
set_option linter.unusedVariables false
set_option linter.unusedSimpArgs false
set_option linter.unusedSectionVars false
open Go.RowKit Go.Maps Go.ChangeShapes Go.WideShapes Go.ChangeAt Go.Deep

theorem addr_addx (x : Addr) (hx : x.spot = none) (i : Nat) : x.add i = ⟨x.block, x.off + i, none⟩ := by
  unfold Addr.add
  obtain ⟨g, o, s⟩ := x
  simp only at hx
  subst hx
  split <;> simp_all
/-- from 'for every place there is one' to a list -/
theorem list_of {α : Type} {p : Nat → α → Prop} : ∀ {n : Nat}, (∀ i, i < n → ∃ x, p i x) → ∃ l : List α, l.length = n ∧ ∀ i (h : i < l.length), p i l[i]
  | 0, _ => ⟨[], rfl, fun i h => absurd h (by simp)⟩
  | n + 1, h => by
    obtain ⟨l, hl, hp⟩ := list_of (n := n) fun i hi => h i (by omega)
    obtain ⟨x, hx⟩ := h n (by omega)
    refine ⟨l ++ [x], by simp [hl], fun i hi => ?_⟩
    by_cases hlt : i < l.length
    · rw [List.getElem_append_left hlt]; exact hp i hlt
    · have : i = n := by simp at hi; omega
      subst this
      rw [List.getElem_append_right (by omega)]
      simpa [hl] using hx

/-- a row of elements of so many cells, each of which tells an x -/
def RowS {α : Type} (w : World) (size : Nat) (dec : Array Value → α → Prop) (v : Value) (l : List α) : Prop :=
  ∃ a c, v = .slice a l.length c ∧ l.length ≤ 9223372036854775807 ∧ ∀ i (h : i < l.length), ∃ b o cs, a = some ⟨b, o, none⟩ ∧ b < w.heap.size ∧ dec cs l[i] ∧ ∀ (j : Nat) u, cs[j]? = some u → w.cell? ⟨b, o + i * size + j, none⟩ = some u

theorem weightsAll_mem {H : Type} {P : Program} {e : TypeId} : ∀ {l : List (DataW H)} {x : DataW H} {n : Nat}, x ∈ l → n ∈ x.weights P e → n ∈ DataW.weightsAll P e l
  | y :: r, x, n, hx, hn => by
    simp only [DataW.weightsAll, List.mem_append]
    rcases List.mem_cons.1 hx with rfl | hx
    · exact Or.inl hn
    · exact Or.inr (weightsAll_mem hx hn)

section
variable {H : Type} {enc : TypeId × Value → H} {W : World} {base base' : Nat} {v : Value} {d : DataW H} {p : List MemPlace}

set_option maxRecDepth 100000 in
/-- a row of structs whose fields are of one cell each, out of one cell -/
theorem rows_sized {α : Type} {t e : TypeId} {fs : Array Field} (dec : Array Value → α → Prop) (ht : Tryz.prog.underlying t = some (.slice e)) (he : Tryz.prog.underlying e = some (.struct fs))
    (hpos : 0 < fs.size) (hone : oneCellFields Tryz.prog fs = true) (hC : Tryz.prog.cellsOf e = fs.size) {fu : Nat} {y : DataW H × List MemPlace} (h : DataW.trod enc Tryz.prog W base' (fun _ => true) true fu t [v] = some y) (hwt : ∀ n ∈ y.1.weights Tryz.prog t, n ≤ reachBytes)
    (hdec : ∀ cs : Array Value, cs.size = fs.size → (∀ (j : Nat) (f : Field), fs[j]? = some f → ∃ u n y, cs[j]? = some u ∧ DataW.trod enc Tryz.prog W base' (fun _ => true) true n f.type [u] = some y ∧ ∀ n ∈ y.1.weights Tryz.prog f.type, n ≤ reachBytes) → ∃ x, dec cs x) :
    ∃ l, RowS W fs.size dec v l ∧ l.length * Tryz.prog.bytesOf e ≤ reachBytes := by
  obtain ⟨d, p⟩ := y
  rcases open_slice ht h with ⟨hcs, _⟩ | ⟨a, len0, cap0, m, n, D, Pl, hcs, hb, hl, hm, hmm, hx0, hi⟩
  · simp at hcs
    subst hcs
    exact ⟨[], ⟨none, 0, rfl, by simp, fun i h => absurd h (by simp)⟩, by simp⟩
  · simp at hcs
    subst hcs
    simp only [if_true] at hmm
    simp only [Prod.mk.injEq] at hx0
    have hx : ∀ i, i < len0 → ∃ x, ∃ b o cs, a = ⟨b, o, none⟩ ∧ b < W.heap.size ∧ dec cs x ∧ ∀ (j : Nat) u, cs[j]? = some u → W.cell? ⟨b, o + i * fs.size + j, none⟩ = some u := by
      intro i hil
      obtain ⟨cs', hc, ht'⟩ := hi i (by omega)
      rw [hC] at hc
      obtain ⟨ys, n', _, hyD, hlen, hyl, hfy⟩ := DataW.trod_struct he ht'
      simp only [Prod.mk.injEq] at hyD
      obtain ⟨_, hcl, hat⟩ := World.cells?_some hc
      have hsz : cs'.toArray.size = fs.size := by simpa using hcl
      have hfield : ∀ (j : Nat) (f : Field), fs[j]? = some f → ∃ u n y, cs'.toArray[j]? = some u ∧ DataW.trod enc Tryz.prog W base' (fun _ => true) true n f.type [u] = some y ∧ ∀ n ∈ y.1.weights Tryz.prog f.type, n ≤ reachBytes := by
        intro j f hj
        obtain ⟨ho, hk⟩ := hone_of hone j f hj
        have hjl : j < fs.size := (Array.getElem?_eq_some_iff.1 hj).1
        have hvj : cs'[j]? = some (cs'[j]'(by omega)) := List.getElem?_eq_getElem (by omega)
        have h1 := hfy j f hj
        rw [ho, hk] at h1
        have hone' : (cs'.drop j).take 1 = [cs'[j]'(by omega)] := by
          rw [List.drop_eq_getElem_cons (by omega)]
          rfl
        rw [hone'] at h1
        have hys : ys[j]? = some (ys[j]'(by omega)) := List.getElem?_eq_getElem (by omega)
        refine ⟨_, n', _, by simp, h1.trans hys, fun q hq => hwt q ?_⟩
        rw [hx0.1]
        have h2 : q ∈ (D i).weights Tryz.prog e := by
          rw [hyD.1]
          simp only [DataW.weights, he]
          exact DataW.weights_mem_each (j := j) (t := f.type) (by simp [hj]) (by simp [hys]) q hq
        have h3 : q ∈ DataW.weightsAll Tryz.prog e ((List.range len0).map D) := weightsAll_mem (List.mem_map.2 ⟨i, List.mem_range.2 hil, rfl⟩) h2
        simp only [DataW.weights, ht]
        exact List.mem_cons_of_mem _ (List.mem_append.2 (Or.inl h3))
      obtain ⟨x, hd⟩ := hdec cs'.toArray hsz hfield
      have hcell : ∀ (j : Nat) u, cs'.toArray[j]? = some u → W.cell? (a.add (i * fs.size + j)) = some u := by
        intro j u hj
        have hjl : j < fs.size := by
          have := (Array.getElem?_eq_some_iff.1 hj).1
          omega
        have := hat j hjl
        rw [← Go.Deep.add_add, this]
        simpa using hj
      have h00 := hcell 0 (cs'[0]'(by omega)) (by simp)
      have hsp : a.spot = none := by
        obtain ⟨c0, hc0, _⟩ := hi 0 (by omega)
        rw [hC] at hc0
        obtain ⟨_, hcl0, hat0⟩ := World.cells?_some hc0
        have h1 := hat0 0 (by omega)
        have h2 : c0[0]? = some (c0[0]'(by omega)) := List.getElem?_eq_getElem (by omega)
        rw [h2] at h1
        have h3 := World.cell?_spot h1
        unfold Addr.add at h3
        simpa using h3
      have hae : a = ⟨a.block, a.off, none⟩ := by
        obtain ⟨g, o, s⟩ := a
        simp only at hsp
        subst hsp; rfl
      have hlt : a.block < W.heap.size := by
        have := World.block_lt_of_cell? _ _ h00
        rw [addr_addx a hsp] at this
        exact this
      refine ⟨x, a.block, a.off, cs'.toArray, hae, hlt, hd, fun j u hj => ?_⟩
      have := hcell j u hj
      rw [addr_addx a hsp] at this
      rw [Nat.add_assoc]; exact this
    obtain ⟨l, hll, hlp⟩ := list_of hx
    have hby : len0 * Tryz.prog.bytesOf e ≤ reachBytes := by
      have h1 := hwt ((((List.range len0).map D).length + ((List.range (m - len0)).map fun j => D (len0 + j)).length) * Tryz.prog.bytesOf e) (by
        rw [hx0.1]
        simp only [DataW.weights, ht]
        exact List.mem_cons_self ..)
      refine Nat.le_trans (Nat.mul_le_mul_right _ ?_) h1
      simp
    refine ⟨l, ⟨some a, cap0, by rw [hll], by rw [hll]; simp only [maxLen] at hm; omega, fun i h => ?_⟩, by rw [hll]; exact hby⟩
    obtain ⟨b, o, cs, h1, h2, h3, h4⟩ := hlp i h
    exact ⟨b, o, cs, by rw [h1], h2, h3, h4⟩

theorem string_sized {t : TypeId} {n : Nat} {y : DataW H × List MemPlace} (ht : Tryz.prog.underlying t = some .string) (h : DataW.trod enc Tryz.prog W base' (fun _ => true) true n t [v] = some y) (hwt : ∀ n ∈ y.1.weights Tryz.prog t, n ≤ reachBytes) : ∃ s : ByteArray, v = .string s ∧ s.size ≤ 140737488355328 := by
  obtain ⟨k, hcs, hy, hw⟩ := DataW.trod_string ht h
  simp at hcs
  subst hy
  refine ⟨k, hcs, ?_⟩
  have h2 := hwt k.data.toList.length (by simp [DataW.weights])
  unfold reachBytes at h2
  have h3 : k.data.toList.length = k.size := by rw [Array.length_toList]; rfl
  omega
theorem int_trod {t : TypeId} {n : Nat} {y : DataW H × List MemPlace} (ht : Tryz.prog.underlying t = some (.int .i64)) (h : DataW.trod enc Tryz.prog W base' (fun _ => true) true n t [v] = some y) : ∃ k : Int, v = .int .i64 k ∧ -9223372036854775808 ≤ k ∧ k ≤ 9223372036854775807 := by
  obtain ⟨k, hcs, _, hw⟩ := DataW.trod_int ht h
  simp at hcs
  subst hcs
  have h2 : (decide (IntKind.i64.min ≤ k) && decide (k ≤ IntKind.i64.max)) = true := hw
  simp only [Bool.and_eq_true, decide_eq_true_eq] at h2
  exact ⟨k, rfl, h2⟩
theorem bool_trod {t : TypeId} {n : Nat} {y : DataW H × List MemPlace} (ht : Tryz.prog.underlying t = some .bool) (h : DataW.trod enc Tryz.prog W base' (fun _ => true) true n t [v] = some y) : ∃ k : Bool, v = .bool k := by
  obtain ⟨k, hcs, _⟩ := DataW.trod_bool ht h
  simp at hcs
  exact ⟨k, hcs⟩

set_option maxRecDepth 100000 in
theorem okWide_cells {t e : TypeId} (ht : Tryz.prog.underlying t = some (.slice e)) (hv : Value.okWide Tryz.prog W .any base t v) : v.cells.toList = [v] := by
  obtain ⟨a0, len0, cap0, rfl⟩ := okWide_slice ht hv
  simp [Value.cells]
set_option maxRecDepth 100000 in
theorem arr_len {cs : Array Value} {l : List Value} (hs : cs.size = l.length) (h : ∀ (j : Nat) u, l[j]? = some u → cs[j]? = some u) : cs = l.toArray := by
  apply Array.ext
  · simpa using hs
  · intro i h1 h2
    have h3 : i < l.length := by simpa using h2
    have := h i l[i] (List.getElem?_eq_getElem h3)
    rw [Array.getElem?_eq_getElem h1] at this
    simpa using this
set_option maxRecDepth 100000 in
/-- a row of texts, out of a field -/
theorem strs_sized {fu : Nat} {y : DataW H × List MemPlace} (h : DataW.trod enc Tryz.prog W base' (fun _ => true) true fu 30 [v] = some y) (hwt : ∀ n ∈ y.1.weights Tryz.prog 30, n ≤ reachBytes) :
    ∃ (l : List ByteArray) (B : Option Addr) (c : Nat), v = .slice B l.length c ∧ StrsA W W.heap.size B l ∧ l.length ≤ c ∧ (B = none → c = 0) ∧ l.length * 16 ≤ 140737488355328 ∧ ∀ s ∈ l, s.size ≤ 140737488355328 := by
  rcases open_strings Tryz.underlying30 Tryz.underlying9 (by kernel_rfl) h with ⟨hcs, _⟩ | ⟨x, l, c, zs, hcs, _, hl, hm, hz, hy, hcell, hwz⟩
  · obtain rfl : v = .slice none 0 0 := by simpa using hcs
    exact ⟨[], none, 0, rfl, fun h => absurd h (Nat.lt_irrefl 0), Nat.le_refl _, fun _ => rfl, Nat.zero_le _, fun s hs => by cases hs⟩
  · obtain rfl : v = .slice (some x) l c := by simpa using hcs
    simp only [if_true] at hz
    subst hy
    have hw0 := hwt
    simp only [DataW.weights, Tryz.underlying30, strs, List.length_map, List.length_take, List.length_drop] at hwt
    have s3 := reach47 (hwt ((min l zs.length + (zs.length - l)) * Tryz.prog.bytesOf 9) (by simp))
    rw [show Tryz.prog.bytesOf 9 = 16 by kernel_rfl] at s3
    have hlen : (zs.take l).length = l := by rw [List.length_take]; omega
    refine ⟨zs.take l, some x, c, by rw [hlen], fun h0 => ?_, by rw [hlen]; exact hl, fun hx => (by cases hx), by rw [hlen]; omega, fun s hs => ?_⟩
    · rw [hlen] at h0
      have hsp := World.cell?_spot (hcell 0 (by omega))
      have hsp' : x.spot = none := by
        unfold Addr.add at hsp; simpa using hsp
      have hc0 := hcell 0 (by omega)
      rw [addr_addx x hsp'] at hc0
      refine ⟨x.block, x.off, ?_, (World.block_lt_of_cell? _ _ hc0 : (⟨x.block, x.off + 0, none⟩ : Addr).block < _), fun j u hj => ?_⟩
      · obtain ⟨g, o, s⟩ := x
        simp only at hsp'
        subst hsp'; rfl
      · have hjl : j < (zs.take l).length := (List.getElem?_eq_some_iff.1 hj).1
        have hc := hcell j (by omega)
        rw [addr_addx x hsp'] at hc
        rw [hc]
        rw [List.getElem?_take_of_lt (by omega)] at hj
        rw [List.getD, hj]; rfl
    · have h2 := hw0 s.data.toList.length (by
        simp only [DataW.weights, Tryz.underlying30]
        exact List.mem_cons_of_mem _ (List.mem_append.2 (Or.inl (weightsAll_mem (List.mem_map.2 ⟨s, hs, rfl⟩) (by simp [DataW.weights])))))
      have h3 : s.data.toList.length = s.size := by rw [Array.length_toList]; rfl
      have := reach47 h2
      omega
end
end Go.Proofs.YtpeepdkeicgkiaaGreatDoor
namespace Go.Proofs.YtpeepdkeicgkiaaGreatDoor
set_option linter.unusedVariables false
set_option linter.unusedSimpArgs false
set_option linter.unusedSectionVars false
open Go.RowKit Go.Maps Go.ChangeShapes Go.WideShapes Go.ChangeAt Go.Deep

/-- what keeps may be: a row of so many numbers, each a word -/
def KeepsOk (ks : List Int) : Prop := ks.length ≤ 9223372036854775807 ∧ ∀ x ∈ ks, -9223372036854775808 ≤ x ∧ x ≤ 9223372036854775807
def KsP (W : World) (v : Value) (ks : List Int) : Prop := RowInt W v ks ∧ KeepsOk ks
section
variable {H : Type} {enc : TypeId × Value → H} {W : World} {base base' : Nat} {v : Value} {d : DataW H} {p : List MemPlace}
set_option maxRecDepth 100000 in
/-- a row of numbers -/
theorem ks_in (hv : Value.okWide Tryz.prog W .any base 48 v) (h : DataW.Trod enc Tryz.prog W base' (fun _ => true) true 48 v d p) (_ : ∀ n ∈ d.weights Tryz.prog 48, n ≤ reachBytes) : ∃ ks, KsP W v ks := by
  obtain ⟨a0, len0, cap0, rfl⟩ := okWide_slice Tryz.underlying48 hv
  obtain ⟨fuel, hf⟩ := h
  rcases open_ints Tryz.underlying48 Tryz.underlying3 (by kernel_rfl) hf with ⟨hcs, _⟩ | ⟨x, l, c, zs, hcs, _, hl, hm, hz, _, hcell, hwz⟩
  · simp [Value.cells] at hcs
    obtain ⟨rfl, rfl, rfl⟩ := hcs
    exact ⟨[], Or.inl ⟨⟨_, _, rfl⟩, rfl⟩, by decide, fun x hx => by simp at hx⟩
  · simp [Value.cells] at hcs
    obtain ⟨rfl, rfl, rfl⟩ := hcs
    simp only [if_true] at hz
    have hlen : (zs.take len0).length = len0 := by rw [List.length_take]; omega
    refine ⟨zs.take len0, ?_, by rw [hlen]; simp only [maxLen] at hm; omega, fun x hx => ?_⟩
    · by_cases h0 : len0 = 0
      · subst h0
        exact Or.inl ⟨⟨_, _, rfl⟩, by simp⟩
      · have hsp := World.cell?_spot (hcell 0 (by omega))
        have hsp' : x.spot = none := by
          unfold Addr.add at hsp; simpa using hsp
        refine Or.inr ⟨x.block, x.off, cap0, ?_, fun j hj => ?_⟩
        · rw [hlen]
          obtain ⟨g, o, s⟩ := x
          simp only at hsp'
          subst hsp'; rfl
        · rw [hlen] at hj
          have hc := hcell j (by omega)
          rw [addr_addx x hsp'] at hc
          rw [hc, List.getElem_take, List.getD, List.getElem?_eq_getElem (by omega)]; rfl
    · have h1 := hwz x (List.mem_of_mem_take hx)
      have h2 : (decide (IntKind.i64.min ≤ x) && decide (x ≤ IntKind.i64.max)) = true := h1
      simp only [Bool.and_eq_true, decide_eq_true_eq] at h2
      have e1 : IntKind.i64.min = -9223372036854775808 := by decide
      have e2 : IntKind.i64.max = 9223372036854775807 := by decide
      omega

/-- a row of truth values -/
def RowBool (w : World) (v : Value) (l : List Bool) : Prop := RowS w 1 (fun cs x => cs = #[.bool x]) v l
set_option maxRecDepth 100000 in
theorem bools_in (hv : Value.okWide Tryz.prog W .any base 47 v) (h : DataW.Trod enc Tryz.prog W base' (fun _ => true) true 47 v d p) (_ : ∀ n ∈ d.weights Tryz.prog 47, n ≤ reachBytes) : ∃ l, RowBool W v l := by
  obtain ⟨a0, len0, cap0, rfl⟩ := okWide_slice Tryz.underlying47 hv
  obtain ⟨fuel, hf⟩ := h
  rcases open_bools Tryz.underlying47 Tryz.underlying4 (by kernel_rfl) hf with ⟨hcs, _⟩ | ⟨x, l, c, B, hcs, _, hl, hm, _, hcell⟩
  · simp [Value.cells] at hcs
    obtain ⟨rfl, rfl, rfl⟩ := hcs
    exact ⟨[], none, 0, rfl, by simp, fun i h => absurd h (by simp)⟩
  · simp [Value.cells] at hcs
    obtain ⟨rfl, rfl, rfl⟩ := hcs
    refine ⟨(List.range len0).map B, some x, cap0, by simp, by simp only [List.length_map, List.length_range, maxLen] at hm ⊢; omega, fun j hj => ?_⟩
    simp only [List.length_map, List.length_range] at hj
    have hc := hcell j (by omega)
    have hsp := World.cell?_spot (hcell 0 (by omega))
    have hsp' : x.spot = none := by
      unfold Addr.add at hsp; simpa using hsp
    rw [addr_addx x hsp'] at hc
    refine ⟨x.block, x.off, _, ?_, (cell_lt hc : (⟨x.block, x.off + j, none⟩ : Addr).block < _), rfl, fun k u hk => ?_⟩
    · obtain ⟨g, o, s⟩ := x
      simp only at hsp'
      subst hsp'; rfl
    · match k with
      | 0 =>
        simp at hk
        subst hk
        rw [Nat.mul_one, Nat.add_zero, hc]
      | k + 1 => simp at hk

/-- the value of a row of manifests that came in -/
def MansP (w : World) (v : Value) (l : List Man) : Prop := ∃ A c, v = .slice A l.length c ∧ MansI w A l ∧ l.length ≤ 140737488355328
theorem arr5 {cs : Array Value} {a b c d e : Value} (hs : cs.size = 5) (h0 : cs[0]? = some a) (h1 : cs[1]? = some b) (h2 : cs[2]? = some c) (h3 : cs[3]? = some d) (h4 : cs[4]? = some e) : cs = #[a, b, c, d, e] := by
  obtain ⟨l⟩ := cs
  match l, hs with
  | [x, y, z, u, v], _ => simp_all
set_option maxRecDepth 100000 in
/-- a row of texts, out of a field, with its room -/
theorem strs_room {fu : Nat} {y : DataW H × List MemPlace} (h : DataW.trod enc Tryz.prog W base' (fun _ => true) true fu 30 [v] = some y) (hwt : ∀ n ∈ y.1.weights Tryz.prog 30, n ≤ reachBytes) :
    ∃ (l : List ByteArray) (B : Option Addr) (c : Nat), v = .slice B l.length c ∧ StrsA W W.heap.size B l ∧ l.length ≤ c ∧ (B = none → l.length = 0 ∧ c = 0) ∧ c ≤ 140737488355328 ∧ l.length ≤ 140737488355328 := by
  obtain ⟨l, B, c, rfl, k1, k2, k3, k4, _⟩ := strs_sized h hwt
  refine ⟨l, B, c, rfl, k1, k2, fun e => ?_, ?_, by omega⟩
  · have := k3 e; omega
  · rcases open_strings Tryz.underlying30 Tryz.underlying9 (by kernel_rfl) h with ⟨hcs, _⟩ | ⟨x, l', c', zs, hcs, _, hl, hm, hz, hy, hcell, hwz⟩
    · simp at hcs
      omega
    · simp only [List.cons.injEq, Value.slice.injEq, and_true] at hcs
      obtain ⟨_, e2, e3⟩ := hcs
      simp only [if_true] at hz
      subst hy
      simp only [DataW.weights, Tryz.underlying30, strs, List.length_map, List.length_take, List.length_drop] at hwt
      have s3 := reach47 (hwt ((min l' zs.length + (zs.length - l')) * Tryz.prog.bytesOf 9) (by simp))
      rw [show Tryz.prog.bytesOf 9 = 16 by kernel_rfl] at s3
      omega
set_option maxRecDepth 100000 in
theorem mans_in (hv : Value.okWide Tryz.prog W .any base 22 v) (h : DataW.Trod enc Tryz.prog W base' (fun _ => true) true 22 v d p) (hwt : ∀ n ∈ d.weights Tryz.prog 22, n ≤ reachBytes) : ∃ l, MansP W v l := by
  obtain ⟨fuel, hf⟩ := h
  rw [okWide_cells Tryz.underlying22 hv] at hf
  have : ∃ l, RowS W 5 (fun (cs : Array Value) (x : Man) => ∃ B c, cs = mcells x B c ∧ ManIn W x B c) v l ∧ l.length * Tryz.prog.bytesOf 32 ≤ reachBytes := by
    refine rows_sized (fs := _) (fun (cs : Array Value) (x : Man) => ∃ B c, cs = mcells x B c ∧ ManIn W x B c) Tryz.underlying22 Tryz.underlying32 (by decide) (by kernel_rfl) (by kernel_rfl) hf hwt fun cs hs hf => ?_
    obtain ⟨u0, n0, y0, h0, t0, g0⟩ := hf 0 _ rfl
    obtain ⟨u1, n1, y1, h1, t1, g1⟩ := hf 1 _ rfl
    obtain ⟨u2, n2, y2, h2, t2, g2⟩ := hf 2 _ rfl
    obtain ⟨u3, n3, y3, h3, t3, g3⟩ := hf 3 _ rfl
    obtain ⟨u4, n4, y4, h4, t4, g4⟩ := hf 4 _ rfl
    obtain ⟨tm, rfl, z0⟩ := int_trod Tryz.underlying3 t0
    obtain ⟨tg, rfl, z1⟩ := string_sized Tryz.underlying9 t1 g1
    obtain ⟨pa, rfl, z2⟩ := string_sized Tryz.underlying9 t2 g2
    obtain ⟨sz, rfl, z3⟩ := int_trod Tryz.underlying3 t3
    obtain ⟨ch, B, c, rfl, k1, k2, k3, k4, k5⟩ := strs_room t4 g4
    exact ⟨⟨tm, tg, pa, sz, ch⟩, B, c, arr5 hs h0 h1 h2 h3 h4, k1, k2, k3, k4, z0.1, z0.2, z3.1, z3.2, z1, z2, k5⟩
  obtain ⟨l, ⟨A, c, rfl, hl, hp⟩, hz⟩ := this
  rw [show Tryz.prog.bytesOf 32 = 72 by kernel_rfl] at hz
  have hz := reach47 hz
  refine ⟨l, A, c, rfl, fun hpos => ?_, by omega⟩
  obtain ⟨b, o, cs, rfl, hb, _, _⟩ := hp 0 hpos
  refine ⟨b, o, rfl, hb, fun i x hi => ?_⟩
  have hil : i < l.length := (List.getElem?_eq_some_iff.1 hi).1
  obtain ⟨b2, o2, cs2, e, _, ⟨B, c', hcs, q1⟩, hcell2⟩ := hp i hil
  injection e with e
  injection e with e1 e2
  subst e1 e2
  obtain rfl : l[i] = x := (List.getElem?_eq_some_iff.1 hi).2
  exact ⟨B, c', fun j u hj => hcell2 j u (by rw [hcs]; exact hj), q1⟩
end
end Go.Proofs.YtpeepdkeicgkiaaGreatDoor
namespace Go.Proofs.YtpeepdkeicgkiaaGreatDoor
set_option linter.unusedVariables false
set_option linter.unusedSimpArgs false
set_option linter.unusedSectionVars false
open Go.RowKit Go.Maps

instance memDec (x : ByteArray) (l : List ByteArray) : Decidable (x ∈ l) := @List.instDecidableMemOfLawfulBEq ByteArray instBEqOfDecidableEq inferInstance x l
def idM (m : Man) : ByteArray := nameS (bs (manL (fewM m)))
theorem idM_snap (m : Man) : frontS ++ idM m = snapN (bs (manL (fewM m))) := rfl
theorem idM_size (m : Man) : (idM m).size = 64 := nameS_size _
structure G1 (l : List Man) (k : Nat) (D : Dk) (all gone : List ByteArray) : Prop where
  rest : Rest D 1048576 k k 2200
  named : Named D
  nd : all.Nodup
  has : ∀ n, (D.has n).isSome = true ↔ n ∈ all.map (frontS ++ ·)
  sub : ∀ x ∈ gone, x ∈ all
  gnd : gone.Nodup
  made : ∀ x ∈ all, ∃ i, ∃ h : i < l.length, i < 6 ∧ goodM (fewM l[i]) = true ∧ x = idM l[i]
  full : ∀ i (h : i < l.length), i < k → goodM (fewM l[i]) = true → idM l[i] ∈ all
  al : all.length ≤ k
  gl : gone.length ≤ k
theorem G1.zero (l : List Man) : G1 l 0 (dkNew 1048576) [] [] where
  rest := Rest.new _ (by decide) _
  named := Named.new _
  nd := List.Pairwise.nil
  has := fun n => by rw [has_new]; simp
  sub := fun x hx => by cases hx
  gnd := List.Pairwise.nil
  made := fun x hx => by cases hx
  full := fun i _ hi => by omega
  al := Nat.le_refl _
  gl := Nat.le_refl _
theorem G1.bad {l : List Man} {k : Nat} {D : Dk} {all gone : List ByteArray} (h : G1 l k D all gone) (hk : k < l.length) (hg : ¬ goodM (fewM l[k]) = true) : D.pubM (fewM l[k]) = D ∧ G1 l (k + 1) D all gone :=
  ⟨by unfold Dk.pubM; rw [if_neg hg], h.rest.mono (by omega) (by omega), h.named, h.nd, h.has, h.sub, h.gnd, h.made, fun i hi hik hgi => by
    rcases (by omega : i < k ∨ i = k) with e | rfl
    · exact h.full i hi e hgi
    · exact absurd hgi hg, by have := h.al; omega, by have := h.gl; omega⟩
theorem pub_some {D : Dk} (ok : DkOk D) {m : Man} (hg : goodM (fewM m) = true) (n : ByteArray) : ((D.pubM (fewM m)).has n).isSome = true ↔ n = frontS ++ idM m ∨ (D.has n).isSome = true := by
  rw [pubM_has ok]
  by_cases hn : n = snapN (bs (manL (fewM m)))
  · rw [if_pos ⟨hg, hn⟩]; exact ⟨fun _ => .inl hn, fun _ => rfl⟩
  · rw [if_neg fun e => hn e.2]
    exact ⟨.inr, fun e => e.resolve_left hn⟩
theorem G1.twice {l : List Man} {k : Nat} {D : Dk} {all gone : List ByteArray} (h : G1 l k D all gone) (hk : k < l.length) (hg : goodM (fewM l[k]) = true) (hm : idM l[k] ∈ all) : G1 l (k + 1) (D.pubM (fewM l[k])) all gone :=
  ⟨pubM_rest h.rest _, pubM_named h.rest.ok h.named _, h.nd, fun n => by
    rw [pub_some h.rest.ok hg, h.has n]
    exact ⟨fun e => e.elim (fun e => by rw [e]; exact List.mem_map.2 ⟨_, hm, rfl⟩) id, .inr⟩, h.sub, h.gnd, h.made, fun i hi hik hgi => by
    rcases (by omega : i < k ∨ i = k) with e | rfl
    · exact h.full i hi e hgi
    · exact hm, by have := h.al; omega, by have := h.gl; omega⟩
theorem G1.new {l : List Man} {k : Nat} {D : Dk} {all gone : List ByteArray} (h : G1 l k D all gone) (hk : k < l.length) (h6 : k < 6) (hg : goodM (fewM l[k]) = true) (hm : idM l[k] ∉ all) : G1 l (k + 1) (D.pubM (fewM l[k])) (all ++ [idM l[k]]) gone :=
  ⟨pubM_rest h.rest _, pubM_named h.rest.ok h.named _, List.nodup_append.2 ⟨h.nd, List.pairwise_singleton _ _, fun a ha b hb => by
      obtain rfl := List.mem_singleton.1 hb
      exact fun e => hm (e ▸ ha)⟩, fun n => by
    rw [pub_some h.rest.ok hg, h.has n, List.map_append, List.mem_append]
    simp only [List.map_cons, List.map_nil, List.mem_singleton]
    exact Or.comm, fun x hx => List.mem_append_left _ (h.sub x hx), h.gnd, fun x hx => by
    rcases List.mem_append.1 hx with hx | hx
    · exact h.made x hx
    · exact ⟨k, hk, h6, hg, List.mem_singleton.1 hx⟩, fun i hi hik hgi => by
    rcases (by omega : i < k ∨ i = k) with e | rfl
    · exact List.mem_append_left _ (h.full i hi e hgi)
    · simp, by have := h.al; simp; omega, by have := h.gl; omega⟩
theorem G1.goes {l : List Man} {k : Nat} {D : Dk} {all gone : List ByteArray} {x : ByteArray} (h : G1 l (k + 1) D (all ++ [x]) gone) (hg : gone.length ≤ k) (hx : x ∉ gone) : G1 l (k + 1) D (all ++ [x]) (gone ++ [x]) :=
  ⟨h.rest, h.named, h.nd, h.has, fun y hy => by
    rcases List.mem_append.1 hy with hy | hy
    · exact h.sub y hy
    · exact List.mem_append_right _ hy, List.nodup_append.2 ⟨h.gnd, List.pairwise_singleton _ _, fun a ha b hb => by
      obtain rfl := List.mem_singleton.1 hb
      exact fun e => hx (e ▸ ha)⟩, h.made, h.full, h.al, by simp; omega⟩
/-- behind so many Removes -/
def Dk.goneL (D : Dk) : List ByteArray → Dk
  | [] => D
  | x :: r => (D.gone (frontS ++ x)).goneL r
theorem Calm.goneL {R : Int} {N F Z : Nat} : ∀ (ids : List ByteArray) {D : Dk} {S : Nat}, Calm D R N F S Z → D.mremove ids = ((D.goneL ids).set, 0) ∧ Calm (D.goneL ids) R N F (S + ids.length) Z ∧ (∀ n, (D.goneL ids).has n = if n ∈ ids.map (frontS ++ ·) then none else D.has n)
  | [], D, S, h => ⟨by
      show D.settle = _
      exact settle_live h.arm h.dead, h, fun n => by simp [Dk.goneL]⟩
  | x :: r, D, S, h => by
    obtain ⟨h1, h2, h3⟩ := h.remove (frontS ++ x)
    obtain ⟨q1, q2, q3⟩ := Calm.goneL r h2
    refine ⟨?_, ?_, fun n => ?_⟩
    · unfold Dk.mremove
      rw [h1]
      simp only
      rw [if_neg (by split <;> simp)]
      exact q1
    · simp only [List.length_cons]
      rw [show S + (r.length + 1) = S + 1 + r.length by omega]
      exact q2
    · show ((D.gone (frontS ++ x)).goneL r).has n = _
      rw [q3 n, h3 n, List.map_cons]
      by_cases e : n = frontS ++ x
      · simp [e]
      · simp [e]
def noSuch : ByteArray := ⟨#[110, 111, 32, 115, 117, 99, 104, 32, 111, 110, 101]⟩
/-- a disk at rest that has these files, of manifests -/
structure G2 (D : Dk) (N : Nat) (S : List ByteArray) : Prop where
  rest : Rest D 1048576 N N 2200
  named : Named D
  has : ∀ n, (D.has n).isSome = true ↔ n ∈ S.map (frontS ++ ·)
theorem G2.listed {D : Dk} {N : Nat} {S : List ByteArray} (h : G2 D N S) (hS : S.Nodup) : D.bads = [] ∧ D.snaps.length = S.length ∧ ∀ x ∈ D.snaps, x.id ∈ S := by
  have hd := h.rest.calm.dead
  have ha := h.rest.ok.fap
  refine ⟨h.named.bads hd ha, ?_, fun x hx => ?_⟩
  · rw [h.named.snaps_len hd ha, folder_count ha (front_nodup hS) h.has, List.length_map]
  · have := (h.has _).1 (h.named.snaps_mem hd ha hx).1
    obtain ⟨y, hy, e⟩ := List.mem_map.1 this
    rw [← front_inj e]; exact hy
theorem G1.removed {l : List Man} {k : Nat} {D : Dk} {all gone : List ByteArray} (h : G1 l k D all gone) (h6 : k ≤ 6) (ok : DkOk (D.mremove (gone ++ [noSuch])).1) : (D.mremove (gone ++ [noSuch])).2 = 0 ∧ G2 (D.mremove (gone ++ [noSuch])).1 6 (all.filter fun x => decide (x ∉ gone)) := by
  obtain ⟨q1, q2, q3⟩ := Calm.goneL (gone ++ [noSuch]) h.rest.calm
  rw [q1] at ok ⊢
  have hhas : ∀ n, ((D.goneL (gone ++ [noSuch])).set.has n).isSome = true ↔ n ∈ (all.filter fun x => decide (x ∉ gone)).map (frontS ++ ·) := by
    intro n
    show ((D.goneL (gone ++ [noSuch])).has n).isSome = true ↔ _
    rw [q3 n]
    constructor
    · intro hs
      split at hs
      · cases hs
      · next hno =>
        obtain ⟨x, hx, rfl⟩ := List.mem_map.1 ((h.has n).1 hs)
        refine List.mem_map.2 ⟨x, List.mem_filter.2 ⟨hx, decide_eq_true fun hg => hno (List.mem_map.2 ⟨x, List.mem_append_left _ hg, rfl⟩)⟩, rfl⟩
    · intro hn
      obtain ⟨x, hx, rfl⟩ := List.mem_map.1 hn
      obtain ⟨hx1, hx2⟩ := List.mem_filter.1 hx
      have hx2 := of_decide_eq_true hx2
      have hall := (h.has (frontS ++ x)).2 (List.mem_map.2 ⟨x, hx1, rfl⟩)
      rw [if_neg]
      · exact hall
      · intro hm
        obtain ⟨y, hy, e⟩ := List.mem_map.1 hm
        have e := front_inj e
        subst e
        rcases List.mem_append.1 hy with hy | hy
        · exact hx2 hy
        · obtain rfl := List.mem_singleton.1 hy
          obtain ⟨i, _, _, _, e⟩ := h.made _ hx1
          have := idM_size l[i]
          rw [← e] at this
          exact absurd this (by decide)
  have hset : Rest (D.goneL (gone ++ [noSuch])).set 1048576 k k 2200 :=
    ⟨⟨q2.dead, q2.arm, q2.room, q2.safe, q2.big, q2.num, q2.fl, Nat.zero_le _, q2.tmp⟩, rfl, ok⟩
  refine ⟨rfl, hset.mono h6 h6, fun n s hs => ?_, hhas⟩
  have hs : (D.goneL (gone ++ [noSuch])).has n = some s := hs
  rw [q3 n] at hs
  split at hs
  · cases hs
  · exact h.named n s hs
theorem filter_count {all gone : List ByteArray} (ha : all.Nodup) (hg : gone.Nodup) (hs : ∀ x ∈ gone, x ∈ all) : (all.filter fun x => decide (x ∉ gone)).length + gone.length = all.length := by
  have : (gone ++ all.filter fun x => decide (x ∉ gone)).Perm all := by
    refine @mem_nodup_perm _ instBEqOfDecidableEq inferInstance _ _ (List.nodup_append.2 ⟨hg, ha.filter _, fun a h1 b h2 e => ?_⟩) ha fun x => ?_
    · subst e
      exact of_decide_eq_true (List.mem_filter.1 h2).2 h1
    · rw [List.mem_append, List.mem_filter, decide_eq_true_iff]
      constructor
      · rintro (h | h)
        · exact hs x h
        · exact h.1
      · intro h
        by_cases hx : x ∈ gone
        · exact .inl hx
        · exact .inr ⟨h, hx⟩
  have := this.length_eq
  rw [List.length_append] at this
  omega
theorem G2.crash {D : Dk} {N : Nat} {S : List ByteArray} (h : G2 D N S) (ks : List Int) : G2 (D.crash ks) N S := by
  obtain ⟨h1, h2⟩ := h.rest.crash (Nat.le_refl _) ks
  exact ⟨h1, fun n s hs => h.named n s (by rw [← h2]; exact hs), fun n => by rw [h2]; exact h.has n⟩
/-- published again -/
structure G3 (l : List Man) (k : Nat) (D : Dk) (all left : List ByteArray) : Prop where
  rest : Rest D 1048576 (6 + k) (6 + k) 2200
  named : Named D
  some : ∀ n, (D.has n).isSome = true → n ∈ all.map (frontS ++ ·)
  pub : ∀ i (h : i < l.length), i < k → goodM (fewM l[i]) = true → (D.has (frontS ++ idM l[i])).isSome = true
theorem G3.zero {l : List Man} {D : Dk} {all left : List ByteArray} (h : G2 D 6 left) (hs : ∀ x ∈ left, x ∈ all) : G3 l 0 D all left :=
  ⟨h.rest, h.named, fun n hn => by
    obtain ⟨x, hx, rfl⟩ := List.mem_map.1 ((h.has n).1 hn)
    exact List.mem_map.2 ⟨x, hs x hx, rfl⟩, fun i _ hi => by omega⟩
theorem G3.step {l : List Man} {k : Nat} {D : Dk} {all left : List ByteArray} (h : G3 l k D all left) (hk : k < l.length) (hf : goodM (fewM l[k]) = true → idM l[k] ∈ all) : G3 l (k + 1) (D.pubM (fewM l[k])) all left := by
  by_cases hg : goodM (fewM l[k]) = true
  · refine ⟨pubM_rest h.rest _, pubM_named h.rest.ok h.named _, fun n hn => ?_, fun i hi hik hgi => ?_⟩
    · rcases (pub_some h.rest.ok hg n).1 hn with e | e
      · rw [e]; exact List.mem_map.2 ⟨_, hf hg, rfl⟩
      · exact h.some n e
    · rw [pub_some h.rest.ok hg]
      rcases (by omega : i < k ∨ i = k) with e | rfl
      · exact .inr (h.pub i hi e hgi)
      · exact .inl rfl
  · have e : D.pubM (fewM l[k]) = D := by unfold Dk.pubM; rw [if_neg hg]
    rw [e]
    refine ⟨h.rest.mono (by omega) (by omega), h.named, h.some, fun i hi hik hgi => ?_⟩
    rcases (by omega : i < k ∨ i = k) with e | rfl
    · exact h.pub i hi e hgi
    · exact absurd hgi hg
theorem G3.done {l : List Man} {k : Nat} {D : Dk} {all left gone : List ByteArray} {D0 : Dk} {k0 : Nat} (h : G3 l k D all left) (h0 : G1 l k0 D0 all gone) (hk : ∀ i, i < l.length → i < 6 → i < k) : G2 D (6 + k) all :=
  ⟨h.rest, h.named, fun n => ⟨h.some n, fun hn => by
    obtain ⟨x, hx, rfl⟩ := List.mem_map.1 hn
    obtain ⟨i, hi, h6, hg, rfl⟩ := h0.made x hx
    exact h.pub i hi (hk i hi h6) hg⟩⟩
end Go.Proofs.YtpeepdkeicgkiaaGreatDoor
namespace Go.Proofs.YtpeepdkeicgkiaaGreatDoor
set_option linter.unusedVariables false
set_option linter.unusedSimpArgs false
set_option linter.unusedSectionVars false
open Go.RowKit Go.Maps Go.Shelf Go.Lib Go.Sort

section
variable {P : Program} {w : World}
/-- where append has made a new block, all that was there is as it was -/
theorem append_new_keeps (base : Nat) (t ty e : TypeId) (i : TypeInfo) (z : Value) (ht : P.underlying t = some (.slice e)) (hi : P.info? e = some i) (hz : i.zero = some z) (hsz : 0 < i.size)
    (v : Value) (n : Nat) (xs : List Value) (hown : w.ownsRow base e i.size v n xs) (a : Addr) (c : Nat) (news : List Value) (hl : news.length = i.size) (hnews : ∀ j u, news[j]? = some u → w.cell? (a.add j) = some u) (h1 : ∀ u ∈ news, u.oneCell' = true)
    (h63 : n + 1 ≤ maxLen) (hbytes : (n + 1) * i.bytes ≤ 140737488355328) {v' : Value} {w' : World} (hr : (Builtin.append_ #[t, t] ty #[v, .slice (some a) 1 c]).run P w = .ok v' w') (hv : v'.ownBlock = some w.heap.size) :
    ∀ k, k < w.heap.size → w'.heap[k]? = w.heap[k]? := by
  have hl1 : news.length = 1 * i.size := by omega
  have hsm : n + 1 ≤ 9223372036854775807 := by simp only [maxLen] at h63; omega
  rcases hown.2 with ⟨rfl, rfl⟩ | ⟨g, cap, cur, rfl, _, hg, hnc, _, hcs, _⟩
  · have h2 := run_append_nil (P := P) w t ty e i z ht hi hz a 1 c news hl1 hnews (by decide) (by decide) (by omega)
    rw [hr] at h2
    simp only [Result.ok.injEq] at h2
    rw [h2.2]
    exact fun k hk => Below.heap_alloc w.drew _ k hk
  · by_cases hroom : n + 1 ≤ cap
    · have hfit : n * i.size + news.length ≤ cur.size := by
        have := Nat.mul_le_mul_right i.size hroom
        rw [hl1, hcs, ← Nat.add_mul]; exact this
      have h2 := run_append_room (P := P) w t ty e i ht hi g n cap cur hg a 1 c news hl1 hnews h1 hroom hfit
      rw [hr] at h2
      simp only [Result.ok.injEq] at h2
      rw [h2.1] at hv
      have e : g = w.heap.size := by simpa [Value.ownBlock] using hv
      have := (Array.getElem?_eq_some_iff.1 hg).1
      omega
    · have h2 := run_append_grow (P := P) w t ty e i z ht hi hz ⟨g, 0, none⟩ n cap xs hown.1 (hown.cells (g := g) rfl) a 1 c news hl1 hnews (by omega) (by omega) (growslice_fits (by omega) hbytes)
      rw [hr] at h2
      simp only [Result.ok.injEq] at h2
      rw [h2.2]
      exact fun k hk => Below.heap_alloc w.drew _ k hk
/-- where append has made no new block, the room is as it was -/
theorem append_same_cap (base : Nat) (t ty e : TypeId) (i : TypeInfo) (z : Value) (ht : P.underlying t = some (.slice e)) (hi : P.info? e = some i) (hz : i.zero = some z) (hsz : 0 < i.size)
    (v : Value) (n : Nat) (xs : List Value) (hown : w.ownsRow base e i.size v n xs) (a : Addr) (c : Nat) (news : List Value) (hl : news.length = i.size) (hnews : ∀ j u, news[j]? = some u → w.cell? (a.add j) = some u) (h1 : ∀ u ∈ news, u.oneCell' = true)
    (h63 : n + 1 ≤ maxLen) (hbytes : (n + 1) * i.bytes ≤ 140737488355328) {g cap : Nat} {w' : World} (hr : (Builtin.append_ #[t, t] ty #[v, .slice (some a) 1 c]).run P w = .ok (.slice (some ⟨g, 0, none⟩) (n + 1) cap) w') (hv : v.ownBlock = some g) :
    v = .slice (some ⟨g, 0, none⟩) n cap := by
  have hl1 : news.length = 1 * i.size := by omega
  have hsm : n + 1 ≤ 9223372036854775807 := by simp only [maxLen] at h63; omega
  rcases hown.2 with ⟨rfl, rfl⟩ | ⟨g1, cap1, cur, rfl, _, hg, hnc, _, hcs, _⟩
  · cases hv
  · have e1 : g1 = g := by simpa [Value.ownBlock] using hv
    subst e1
    by_cases hroom : n + 1 ≤ cap1
    · have hfit : n * i.size + news.length ≤ cur.size := by
        have := Nat.mul_le_mul_right i.size hroom
        rw [hl1, hcs, ← Nat.add_mul]; exact this
      have h2 := run_append_room (P := P) w t ty e i ht hi g1 n cap1 cur hg a 1 c news hl1 hnews h1 hroom hfit
      rw [hr] at h2
      simp only [Result.ok.injEq, Value.slice.injEq] at h2
      rw [h2.1.2.2]
    · have h2 := run_append_grow (P := P) w t ty e i z ht hi hz ⟨g1, 0, none⟩ n cap1 xs hown.1 (hown.cells (g := g1) rfl) a 1 c news hl1 hnews (by omega) (by omega) (growslice_fits (by omega) hbytes)
      rw [hr] at h2
      simp only [Result.ok.injEq, Value.slice.injEq, Option.some.injEq, Addr.mk.injEq] at h2
      have := (Array.getElem?_eq_some_iff.1 hg).1
      have := h2.1.1.1
      omega
/-- append(v, x) of one element: and where the row is a new one, the elder one is as it was -/
theorem wpList_app1k {ops : Array Oper} {rest : List Oper} {o : Oper} {a : Act} {Q : Exit → Act → World → Prop} (hgd : o.guard = none) (s x : Operand) (t : TypeId)
    (ho : o.op = .call { callee := .builtin .append, args := #[s, x], argTypes := #[t, t] })
    (base : Nat) (e : TypeId) {z : Value} {size bytes : Nat} (ht : P.underlying t = some (.slice e))
    (hinfo : (P.info? e).map (fun i => (i.zero, i.size, i.bytes)) = some (some z, size, bytes)) (hzs : z.cells.size = size) (hsz : 0 < size)
    (v : Value) (n : Nat) (xs : List Value) (hs : a.eval s = v) (hown : w.ownsRow base e size v n xs)
    (cs : Array Value) (hx : a.eval x = .slice (some ⟨w.heap.size, 0, none⟩) 1 1) (hl : cs.size = size) (h1 : ∀ u ∈ cs.toList, u.oneCell' = true)
    (hbytes : (n + 1) * bytes ≤ 140737488355328) (h63 : n + 1 ≤ 140737488355328) (hbase : base ≤ w.heap.size)
    (h : ∀ g cap w', w'.ownsRow base e size (.slice (some ⟨g, 0, none⟩) (n + 1) cap) (n + 1) (xs ++ cs.toList) → w.grownBy w' v.ownBlock → Below base w w' → (v = .slice (some ⟨g, 0, none⟩) n cap ∨ (g = w.heap.size + 1 ∧ ∀ k, k < w.heap.size → w'.heap[k]? = w.heap[k]?)) → wpList P ops Q rest (a.put o.dst (.slice (some ⟨g, 0, none⟩) (n + 1) cap)) w') :
    wpList P ops Q (o :: rest) a (w.alloc (.cells cs e)) := by
  obtain ⟨i0, hi, hz0, hz1, hz2⟩ := info_parts hinfo
  subst hz1 hz2
  have hnews : ∀ j u, cs.toList[j]? = some u → (w.alloc (.cells cs e)).cell? ((⟨w.heap.size, 0, none⟩ : Addr).add j) = some u := by
    intro j u hj
    have hadd : (⟨w.heap.size, 0, none⟩ : Addr).add j = ⟨w.heap.size, j, none⟩ := by unfold Addr.add; split <;> simp_all
    rw [hadd, World.cell?_alloc_at _ _ _ _ rfl]
    simpa using hj
  refine wpList_plain hgd fun K hK => ?_
  obtain ⟨v', w', hr, h2, h3, h4, h5⟩ := run_append_own_at (P := P) (w.alloc (.cells cs e)) base t o.type e i0 z _ _ ht hi hz0 rfl rfl hzs hsz v n xs (hown.alloc _) ⟨w.heap.size, 0, none⟩ 1 1 cs.toList (by simp [hl]) hnews h1 (by unfold maxLen; omega) hbytes (by simp; omega)
  have hkeep := append_new_keeps (P := P) (w := w.alloc (.cells cs e)) base t o.type e i0 z ht hi hz0 hsz v n xs (hown.alloc _) ⟨w.heap.size, 0, none⟩ 1 cs.toList (by simp [hl]) hnews h1 (by unfold maxLen; omega) hbytes hr
  have hcapk := fun g cap => append_same_cap (P := P) (w := w.alloc (.cells cs e)) base t o.type e i0 z ht hi hz0 hsz v n xs (hown.alloc _) ⟨w.heap.size, 0, none⟩ 1 cs.toList (by simp [hl]) hnews h1 (by unfold maxLen; omega) hbytes (g := g) (cap := cap) (w' := w')
  unfold Oper.wp execOp
  simp only [ho, resolve, invoke, builtin, Sem.run_bind, Sem.run_pure, Result.andThen_ok, List.map_toArray, List.map_cons, List.map_nil, hs, hx, hr]
  refine hK _ _ ?_
  have hgr : w.grownBy w' v.ownBlock := (World.grownBy_alloc w _ _).trans h3
  obtain ⟨g', cap', rfl⟩ : ∃ g cap, v' = .slice (some ⟨g, 0, none⟩) (n + 1) cap := by
    rcases h2.2 with ⟨_, h0⟩ | ⟨g, cap, _, hv, _⟩
    · omega
    · exact ⟨g, cap, hv⟩
  refine h g' cap' w' h2 hgr ?_ ?_
  · refine (Below.refl base w).grown hgr hbase ?_
    intro k hk
    obtain ⟨_, hv | ⟨g, cap, cur, hv, hg', _⟩⟩ := hown
    · rw [hv.1] at hk; simp [Value.ownBlock] at hk
    · rw [hv] at hk; simp [Value.ownBlock] at hk; omega
  · rcases h5 with e | e
    · exact Or.inl (hcapk g' cap' hr e.symm)
    · refine Or.inr ⟨by simp [Value.ownBlock] at e; exact e, fun k hk => (hkeep e k (by simp; omega)).trans (Below.heap_alloc w _ k hk)⟩
end
/-- the elder row is owned on -/
theorem elder_own {w w' : World} {B g cap n k : Nat} {ty : TypeId} {v : Value} {xs ys : List Value} (h : w.ownsRow B ty k v n xs) (h' : w'.ownsRow B ty k (.slice (some ⟨g, 0, none⟩) (n + 1) cap) (n + 1) (xs ++ ys))
    (hl : v = .slice (some ⟨g, 0, none⟩) n cap ∨ (g = w.heap.size + 1 ∧ ∀ k, k < w.heap.size → w'.heap[k]? = w.heap[k]?)) : w'.ownsRow B ty k v n xs := by
  rcases hl with rfl | ⟨_, hk⟩
  · refine ⟨h.1, ?_⟩
    rcases h.2 with ⟨hv, _⟩ | ⟨g1, c1, u1, hv, hg1, hh1, hn1, hm1, hz1, ht1⟩
    · cases hv
    · rcases h'.2 with ⟨hv', _⟩ | ⟨g2, c2, u2, hv', hg2, hh2, hn2, hm2, hz2, ht2⟩
      · cases hv'
      · simp only [Value.slice.injEq, Option.some.injEq, Addr.mk.injEq] at hv hv'
        obtain ⟨⟨rfl, _⟩, _, rfl⟩ := hv'
        refine .inr ⟨g, cap, u2, rfl, hg2, hh2, by omega, hm2, hz2, ?_⟩
        have h3 : (u2.toList.take ((n + 1) * k)).take (n * k) = (xs ++ ys).take (n * k) := by rw [ht2]
        rw [List.take_take, Nat.min_eq_left (Nat.mul_le_mul_right k (Nat.le_succ n)), ← h.1, List.take_left] at h3
        rw [← h.1]; exact h3
  · exact ownsRow_keep h fun j hj => hk j (ownsRow_lt h hj).2
theorem ownBlock_of {v : Value} {w : World} {g n cap : Nat} {p : Prop} (hl : v = .slice (some ⟨g, 0, none⟩) n cap ∨ (g = w.heap.size + 1 ∧ p)) : v.ownBlock = some g ∨ g = w.heap.size + 1 :=
  hl.elim (fun e => .inl (by rw [e]; rfl)) fun e => .inr e.1
theorem GI.post {w0 w w' : World} {b : Nat} {D D' : Dk} {L : Lay} {av gv : Value} {all gone : List ByteArray} (h1 : DiskAt w b D L) (h2 : Below w0.heap.size w0 w) (h3 : ∀ k ∈ foot b L, w0.heap.size ≤ k) (h4 : w.ownsRow w0.heap.size 9 1 av all.length (all.map .string)) (h5 : w.ownsRow w0.heap.size 9 1 gv gone.length (gone.map .string))
    (h6 : ∀ k, av.ownBlock = some k → k ∉ foot b L) (h7 : ∀ k, gv.ownBlock = some k → k ∉ foot b L) (h8 : ∀ k, av.ownBlock = some k → gv.ownBlock ≠ some k) (hp : DkPost b L D' w w') : GI w0 w' b D' av gv all gone := by
  obtain ⟨L', q1, q2, q3⟩ := hp
  have hz := h2.size
  refine ⟨L', q1, h2.trans (q2.below hz fun k hk hm => by have := h3 k hm; omega), fun k hk => (q3 k hk).elim (h3 k) (fun e => by omega),
    ownsRow_keep h4 fun k hk => q2.block k (ownsRow_lt h4 hk).2 (h6 k hk), ownsRow_keep h5 fun k hk => q2.block k (ownsRow_lt h5 hk).2 (h7 k hk), fun k hk hm => ?_, fun k hk hm => ?_, h8⟩
  · rcases q3 k hm with e | e
    · exact h6 k hk e
    · have := (ownsRow_lt h4 hk).2; omega
  · rcases q3 k hm with e | e
    · exact h7 k hk e
    · have := (ownsRow_lt h5 hk).2; omega
/-- Remove of what is gone, and one more: the elder row is as it was -/
theorem GI.removes {w0 w w' : World} {b : Nat} {D : Dk} {av gv : Value} {all gone : List ByteArray} (h : GI w0 w b D av gv all gone) {x : ByteArray} {g c : Nat} (ho : w'.ownsRow w0.heap.size 9 1 (.slice (some ⟨g, 0, none⟩) (gone.length + 1) c) (gone.length + 1) (gone.map .string ++ [.string x])) (hg : w.grownBy w' gv.ownBlock) (hb : Below w0.heap.size w w')
    (hl : gv = .slice (some ⟨g, 0, none⟩) gone.length c ∨ (g = w.heap.size + 1 ∧ ∀ k, k < w.heap.size → w'.heap[k]? = w.heap[k]?)) (hz : ∀ y ∈ gone ++ [x], y.size ≤ 140737488355328) (hlen : (gone ++ [x]).length ≤ 100000) (hsm : D.small 200000) :
    GI w0 w' b D av gv all gone ∧ Calls Tryz.prog 17 #[.pointer (some ⟨b, 0, none⟩), .slice (some ⟨g, 0, none⟩) (gone.length + 1) c] w' fun e w'' => e = .returned (.int .i64 (D.mremove (gone ++ [x])).2) ∧ GI w0 w'' b (D.mremove (gone ++ [x])).1 av gv all gone := by
  obtain ⟨L, h1, h2, h3, h4, h5, h6, h7, h8⟩ := h
  have hf : ∀ k ∈ foot b L, w'.heap[k]? = w.heap[k]? := fun k hk => hg.block k (h1.flt k hk) fun e => h7 k e.symm hk
  have hgne : g ∉ foot b L := fun hm => by
    rcases ownBlock_of hl with e | e
    · exact h7 g e hm
    · have := h1.flt g hm; omega
  have q2 : Below w0.heap.size w0 w' := h2.trans hb
  have q4 := ownsRow_keep h4 fun k hk => hg.block k (ownsRow_lt h4 hk).2 fun e => h8 k hk e.symm
  have q5 := elder_own h5 ho hl
  refine ⟨⟨L, h1.keepB hf, q2, h3, q4, q5, h6, h7, h8⟩, ?_⟩
  obtain ⟨hst, _⟩ := own_strs (l := gone ++ [x]) (n := gone.length + 1) (c := c) (A := some ⟨g, 0, none⟩) (B := w0.heap.size) (w := w') (by rw [show strsV (gone ++ [x]) = gone.map .string ++ [.string x] by simp [strsV]]; exact ho)
  have hfl : ∀ g' o, 0 < (gone ++ [x]).length → some (⟨g, 0, none⟩ : Addr) = some ⟨g', o, none⟩ → g' ∉ foot b L := by
    intro g' o _ e
    obtain ⟨rfl, _⟩ : g = g' ∧ 0 = o := by simpa using e
    exact hgne
  have hc := mremove_any b D L (gone ++ [x]) (some ⟨g, 0, none⟩) c w' (h1.keepB hf) hst hfl hz hlen hsm
  rw [show (gone ++ [x]).length = gone.length + 1 by simp] at hc
  exact hc.mono fun e w'' ⟨e1, hp⟩ => ⟨e1, GI.post (h1.keepB hf) q2 h3 q4 q5 h6 h7 h8 hp⟩
/-- snapshots' cells -/
theorem sn_cells {w : World} {g : Nat} {tg : ByteArray → ByteArray} {l : List Sn} (h : HoldsK (snC tg) 3 w g 0 l.toArray) {k : Nat} (hk : k < l.length) :
    w.cell? ⟨g, k * 3, none⟩ = some (.string l[k].id) ∧ w.cell? ⟨g, k * 3 + 1, none⟩ = some (.int .i64 l[k].t) ∧ w.cell? ⟨g, k * 3 + 2, none⟩ = some (.string (tg l[k].id)) := by
  have hx : l.toArray[k]! = l[k] := by rw [getElem!_pos l.toArray k (by simpa using hk)]; simp
  have key : ∀ j, j < 3 → w.cell? ⟨g, k * 3 + j, none⟩ = some ((snC tg l[k])[j]!) := by
    intro j hj
    have h1 := (h (k * 3 + j) (by rw [size_flatK, List.size_toArray]; omega)).1
    rw [Nat.zero_add, get_flatK _ _ _ _ (by rw [List.size_toArray]; omega)] at h1
    rw [h1, show (k * 3 + j) / 3 = k by omega, show (k * 3 + j) % 3 = j by omega, hx]
    rfl
  exact ⟨key 0 (by decide), key 1 (by decide), key 2 (by decide)⟩
theorem SnA.up {w W : World} {A : Option Addr} {tg : ByteArray → ByteArray} {l : List Sn} (h : SnA w A tg l) (hb : Below w.heap.size w W) : SnA W A tg l := fun hl => by
  obtain ⟨g, e, hlt, hh⟩ := h hl
  exact ⟨g, e, Nat.lt_of_lt_of_le hlt hb.size, fun j hj => ⟨(hb.cell (p := ⟨g, 0 + j, none⟩) hlt).trans (hh j hj).1, (hb.frozen (p := ⟨g, 0 + j, none⟩) hlt).trans (hh j hj).2⟩⟩
end Go.Proofs.YtpeepdkeicgkiaaGreatDoor
