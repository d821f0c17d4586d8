/- Rows of structs, of truth values, and of rows of numbers, that came in as arguments. -/
import Derived.Test.YtjdkhainlcalbaaAr
import Derived.Deep.Slices
import Derived.Deep.Fields
import Derived.Deep.Grids
import Derived.ChangeSame
namespace Go.Proofs.Ytjdkhainlcalbaa
open Go.RowKit Go.Maps Go.ChangeShapes Go.WideShapes Go.ChangeAt Go.Deep

/-- from 'for every place there is one' to a list -/
theorem list_of {α : Type} {p : Nat → α → Prop} : ∀ {n : Nat}, (∀ i, i < n → ∃ x, p i x) → ∃ l : List α, l.length = n ∧ ∀ i (h : i < l.length), p i l[i]
  | 0, _ => ⟨[], rfl, fun i h => absurd h (by simp)⟩
  | n + 1, h => by
    obtain ⟨l, hl, hp⟩ := list_of (n := n) fun i hi => h i (by omega)
    obtain ⟨x, hx⟩ := h n (by omega)
    refine ⟨l ++ [x], by simp [hl], fun i hi => ?_⟩
    by_cases hlt : i < l.length
    · rw [List.getElem_append_left hlt]; exact hp i hlt
    · have : i = n := by simp at hi; omega
      subst this
      rw [List.getElem_append_right (by omega)]
      simpa [hl] using hx

/-- a row of elements of so many cells, each of which tells an x -/
def RowS {α : Type} (w : World) (size : Nat) (dec : Array Value → α → Prop) (v : Value) (l : List α) : Prop :=
  ∃ a c, v = .slice a l.length c ∧ l.length ≤ 9223372036854775807 ∧ ∀ i (h : i < l.length), ∃ b o cs, a = some ⟨b, o, none⟩ ∧ b < w.heap.size ∧ dec cs l[i] ∧ ∀ (j : Nat) u, cs[j]? = some u → w.cell? ⟨b, o + i * size + j, none⟩ = some u

section
variable {H : Type} {enc : TypeId × Value → H} {W : World} {base base' : Nat} {v : Value} {d : DataW H} {p : List MemPlace}

set_option maxRecDepth 100000 in
/-- a row of structs whose fields are of one cell each -/
theorem structs_in {α : Type} {t e : TypeId} {fs : Array Field} (dec : Array Value → α → Prop) (ht : Try.prog.underlying t = some (.slice e)) (he : Try.prog.underlying e = some (.struct fs))
    (hpos : 0 < fs.size) (hone : oneCellFields Try.prog fs = true) (hC : Try.prog.cellsOf e = fs.size) (hv : Value.okWide Try.prog W .any base t v) (h : DataW.Trod enc Try.prog W base' (fun _ => true) true t v d p)
    (hdec : ∀ cs : Array Value, cs.size = fs.size → (∀ (j : Nat) (f : Field), fs[j]? = some f → ∃ u n y, cs[j]? = some u ∧ DataW.trod enc Try.prog W base' (fun _ => true) true n f.type [u] = some y) → ∃ x, dec cs x) :
    ∃ l, RowS W fs.size dec v l := by
  obtain ⟨a0, len0, cap0, rfl⟩ := okWide_slice ht hv
  obtain ⟨fuel, hf⟩ := h
  rcases open_slice ht hf with ⟨hcs, _⟩ | ⟨a, len, cap, m, n, D, Pl, hcs, hb, hl, hm, hmm, _, hi⟩
  · simp [Value.cells] at hcs
    obtain ⟨rfl, rfl, rfl⟩ := hcs
    exact ⟨[], none, 0, rfl, by simp, fun i h => absurd h (by simp)⟩
  · simp [Value.cells] at hcs
    obtain ⟨rfl, rfl, rfl⟩ := hcs
    simp only [if_true] at hmm
    have hx : ∀ i, i < len0 → ∃ x, ∃ b o cs, a = ⟨b, o, none⟩ ∧ b < W.heap.size ∧ dec cs x ∧ ∀ (j : Nat) u, cs[j]? = some u → W.cell? ⟨b, o + i * fs.size + j, none⟩ = some u := by
      intro i hil
      obtain ⟨cs', hc, ht'⟩ := hi i (by omega)
      rw [hC] at hc
      obtain ⟨ys, n', _, _, hlen, hyl, hfy⟩ := DataW.trod_struct he ht'
      obtain ⟨_, hcl, hat⟩ := World.cells?_some hc
      have hsz : cs'.toArray.size = fs.size := by simpa using hcl
      have hfield : ∀ (j : Nat) (f : Field), fs[j]? = some f → ∃ u n y, cs'.toArray[j]? = some u ∧ DataW.trod enc Try.prog W base' (fun _ => true) true n f.type [u] = some y := by
        intro j f hj
        obtain ⟨ho, hk⟩ := hone_of hone j f hj
        have hjl : j < fs.size := (Array.getElem?_eq_some_iff.1 hj).1
        have hvj : cs'[j]? = some (cs'[j]'(by omega)) := List.getElem?_eq_getElem (by omega)
        have h1 := hfy j f hj
        rw [ho, hk] at h1
        have hone' : (cs'.drop j).take 1 = [cs'[j]'(by omega)] := by
          rw [List.drop_eq_getElem_cons (by omega)]
          rfl
        rw [hone'] at h1
        have hys : ys[j]? = some (ys[j]'(by omega)) := List.getElem?_eq_getElem (by omega)
        exact ⟨_, n', _, by simp, h1.trans hys⟩
      obtain ⟨x, hd⟩ := hdec cs'.toArray hsz hfield
      have hcell : ∀ (j : Nat) u, cs'.toArray[j]? = some u → W.cell? (a.add (i * fs.size + j)) = some u := by
        intro j u hj
        have hjl : j < fs.size := by
          have := (Array.getElem?_eq_some_iff.1 hj).1
          omega
        have := hat j hjl
        rw [← Go.Deep.add_add, this]
        simpa using hj
      have h00 := hcell 0 (cs'[0]'(by omega)) (by simp)
      have hsp : a.spot = none := by
        obtain ⟨c0, hc0, _⟩ := hi 0 (by omega)
        rw [hC] at hc0
        obtain ⟨_, hcl0, hat0⟩ := World.cells?_some hc0
        have h1 := hat0 0 (by omega)
        have h2 : c0[0]? = some (c0[0]'(by omega)) := List.getElem?_eq_getElem (by omega)
        rw [h2] at h1
        have h3 := World.cell?_spot h1
        unfold Addr.add at h3
        simpa using h3
      have hae : a = ⟨a.block, a.off, none⟩ := by
        obtain ⟨g, o, s⟩ := a
        simp only at hsp
        subst hsp; rfl
      have hlt : a.block < W.heap.size := by
        have := cell_lt h00
        rw [addr_add a hsp] at this
        exact this
      refine ⟨x, a.block, a.off, cs'.toArray, hae, hlt, hd, fun j u hj => ?_⟩
      have := hcell j u hj
      rw [addr_add a hsp] at this
      rw [Nat.add_assoc]; exact this
    obtain ⟨l, hll, hlp⟩ := list_of hx
    refine ⟨l, some a, cap0, by rw [hll], by rw [hll]; simp only [maxLen] at hm; omega, fun i h => ?_⟩
    obtain ⟨b, o, cs, h1, h2, h3, h4⟩ := hlp i h
    exact ⟨b, o, cs, by rw [h1], h2, h3, h4⟩

/-- a row of numbers, out of a field -/
theorem ints_trod {n : Nat} {y : DataW H × List MemPlace} (h : DataW.trod enc Try.prog W base' (fun _ => true) true n 56 [v] = some y) : ∃ ks, RowInt W v ks ∧ KeepsOk ks := by
  rcases open_ints Try.underlying56 Try.underlying3 (by kernel_rfl) h with ⟨hcs, _⟩ | ⟨x, len0, cap0, zs, hcs, _, hl, hm, hz, _, hcell, hwz⟩
  · simp at hcs
    subst hcs
    exact ⟨[], Or.inl ⟨⟨_, _, rfl⟩, rfl⟩, by decide, fun x hx => by simp at hx⟩
  · simp at hcs
    subst hcs
    simp only [if_true] at hz
    have hlen : (zs.take len0).length = len0 := by rw [List.length_take]; omega
    refine ⟨zs.take len0, ?_, by rw [hlen]; simp only [maxLen] at hm; omega, fun x hx => ?_⟩
    · by_cases h0 : len0 = 0
      · subst h0
        exact Or.inl ⟨⟨_, _, rfl⟩, by simp⟩
      · have hsp := World.cell?_spot (hcell 0 (by omega))
        have hsp' : x.spot = none := by
          unfold Addr.add at hsp; simpa using hsp
        refine Or.inr ⟨x.block, x.off, cap0, ?_, fun j hj => ?_⟩
        · rw [hlen]
          obtain ⟨g, o, s⟩ := x
          simp only at hsp'
          subst hsp'; rfl
        · rw [hlen] at hj
          have hc := hcell j (by omega)
          rw [addr_add x hsp'] at hc
          rw [hc, List.getElem_take, List.getD, List.getElem?_eq_getElem (by omega)]; rfl
    · have h1 := hwz x (List.mem_of_mem_take hx)
      have h2 : (decide (IntKind.i64.min ≤ x) && decide (x ≤ IntKind.i64.max)) = true := h1
      simp only [Bool.and_eq_true, decide_eq_true_eq] at h2
      have e1 : IntKind.i64.min = -9223372036854775808 := by decide
      have e2 : IntKind.i64.max = 9223372036854775807 := by decide
      omega
theorem int_trod {t : TypeId} {n : Nat} {y : DataW H × List MemPlace} (ht : Try.prog.underlying t = some (.int .i64)) (h : DataW.trod enc Try.prog W base' (fun _ => true) true n t [v] = some y) : ∃ k : Int, v = .int .i64 k ∧ -9223372036854775808 ≤ k ∧ k ≤ 9223372036854775807 := by
  obtain ⟨k, hcs, _, hw⟩ := DataW.trod_int ht h
  simp at hcs
  subst hcs
  have h2 : (decide (IntKind.i64.min ≤ k) && decide (k ≤ IntKind.i64.max)) = true := hw
  simp only [Bool.and_eq_true, decide_eq_true_eq] at h2
  exact ⟨k, rfl, h2⟩
theorem bool_trod {t : TypeId} {n : Nat} {y : DataW H × List MemPlace} (ht : Try.prog.underlying t = some .bool) (h : DataW.trod enc Try.prog W base' (fun _ => true) true n t [v] = some y) : ∃ k : Bool, v = .bool k := by
  obtain ⟨k, hcs, _⟩ := DataW.trod_bool ht h
  simp at hcs
  exact ⟨k, hcs⟩
theorem string_trod {t : TypeId} {n : Nat} {y : DataW H × List MemPlace} (ht : Try.prog.underlying t = some .string) (h : DataW.trod enc Try.prog W base' (fun _ => true) true n t [v] = some y) : ∃ s : ByteArray, v = .string s ∧ s.size ≤ 9223372036854775807 := by
  obtain ⟨k, hcs, _, hw⟩ := DataW.trod_string ht h
  simp at hcs
  simp only [maxLen] at hw
  exact ⟨k, hcs, hw⟩

/-- a row of truth values -/
def RowBool (w : World) (v : Value) (l : List Bool) : Prop := RowS w 1 (fun cs x => cs = #[.bool x]) v l
set_option maxRecDepth 100000 in
theorem bools_in (hv : Value.okWide Try.prog W .any base 86 v) (h : DataW.Trod enc Try.prog W base' (fun _ => true) true 86 v d p) : ∃ l, RowBool W v l := by
  obtain ⟨a0, len0, cap0, rfl⟩ := okWide_slice Try.underlying86 hv
  obtain ⟨fuel, hf⟩ := h
  rcases open_bools Try.underlying86 Try.underlying4 (by kernel_rfl) hf with ⟨hcs, _⟩ | ⟨x, l, c, B, hcs, _, hl, hm, _, hcell⟩
  · simp [Value.cells] at hcs
    obtain ⟨rfl, rfl, rfl⟩ := hcs
    exact ⟨[], none, 0, rfl, by simp, fun i h => absurd h (by simp)⟩
  · simp [Value.cells] at hcs
    obtain ⟨rfl, rfl, rfl⟩ := hcs
    refine ⟨(List.range len0).map B, some x, cap0, by simp, by simp only [List.length_map, List.length_range, maxLen] at hm ⊢; omega, fun j hj => ?_⟩
    simp only [List.length_map, List.length_range] at hj
    have hc := hcell j (by omega)
    have hsp := World.cell?_spot (hcell 0 (by omega))
    have hsp' : x.spot = none := by
      unfold Addr.add at hsp; simpa using hsp
    rw [addr_add x hsp'] at hc
    refine ⟨x.block, x.off, _, ?_, (cell_lt hc : (⟨x.block, x.off + j, none⟩ : Addr).block < _), rfl, fun k u hk => ?_⟩
    · obtain ⟨g, o, s⟩ := x
      simp only at hsp'
      subst hsp'; rfl
    · match k with
      | 0 =>
        simp at hk
        subst hk
        rw [Nat.mul_one, Nat.add_zero, hc]
      | k + 1 => simp at hk

/-- a call of the log's laws -/
structure Op15 where
  reset : Bool
  add : ByteArray
  arm : Int
  kv : Value
  ks : List Int
def op15 (W : World) (cs : Array Value) (x : Op15) : Prop := cs = #[.bool x.reset, .string x.add, .int .i64 x.arm, x.kv] ∧ x.add.size ≤ 9223372036854775807 ∧ x.arm ≤ 9223372036854775807 ∧ RowInt W x.kv x.ks ∧ KeepsOk x.ks
def RowOp15 (w : World) (v : Value) (l : List Op15) : Prop := RowS w 4 (op15 w) v l
theorem arr4 {cs : Array Value} {a b c d : Value} (hs : cs.size = 4) (h0 : cs[0]? = some a) (h1 : cs[1]? = some b) (h2 : cs[2]? = some c) (h3 : cs[3]? = some d) : cs = #[a, b, c, d] := by
  obtain ⟨l⟩ := cs
  match l, hs with
  | [x, y, z, u], _ => simp_all
set_option maxRecDepth 100000 in
theorem ops15_in (hv : Value.okWide Try.prog W .any base 85 v) (h : DataW.Trod enc Try.prog W base' (fun _ => true) true 85 v d p) : ∃ l, RowOp15 W v l := by
  refine structs_in (fs := _) (op15 W) Try.underlying85 Try.underlying92 (by decide) (by kernel_rfl) (by kernel_rfl) hv h fun cs hs hf => ?_
  obtain ⟨u0, n0, y0, h0, t0⟩ := hf 0 _ rfl
  obtain ⟨u1, n1, y1, h1, t1⟩ := hf 1 _ rfl
  obtain ⟨u2, n2, y2, h2, t2⟩ := hf 2 _ rfl
  obtain ⟨u3, n3, y3, h3, t3⟩ := hf 3 _ rfl
  obtain ⟨b0, rfl⟩ := bool_trod Try.underlying4 t0
  obtain ⟨b1, rfl, z1⟩ := string_trod Try.underlying9 t1
  obtain ⟨b2, rfl, z2, z3⟩ := int_trod Try.underlying3 t2
  obtain ⟨ks, r1, r2⟩ := ints_trod t3
  exact ⟨⟨b0, b1, b2, u3, ks⟩, arr4 hs h0 h1 h2 h3, z1, z3, r1, r2⟩
end
end Go.Proofs.Ytjdkhainlcalbaa
