/- Rows of structs that came in as arguments, with the bound on what they lead to. -/
import Derived.Test.YtjdkhainlcalbaaAs
import Derived.SizedLaws
namespace Go.Proofs.Ytjdkhainlcalbaa
open Go.RowKit Go.Maps Go.ChangeShapes Go.WideShapes Go.ChangeAt Go.Deep

theorem weightsAll_mem {H : Type} {P : Program} {e : TypeId} : ∀ {l : List (DataW H)} {x : DataW H} {n : Nat}, x ∈ l → n ∈ x.weights P e → n ∈ DataW.weightsAll P e l
  | y :: r, x, n, hx, hn => by
    simp only [DataW.weightsAll, List.mem_append]
    rcases List.mem_cons.1 hx with rfl | hx
    · exact Or.inl hn
    · exact Or.inr (weightsAll_mem hx hn)

section
variable {H : Type} {enc : TypeId × Value → H} {W : World} {base base' : Nat} {v : Value} {d : DataW H} {p : List MemPlace}

set_option maxRecDepth 100000 in
/-- a row of structs whose fields are of one cell each -/
theorem structs_sized {α : Type} {t e : TypeId} {fs : Array Field} (dec : Array Value → α → Prop) (ht : Try.prog.underlying t = some (.slice e)) (he : Try.prog.underlying e = some (.struct fs))
    (hpos : 0 < fs.size) (hone : oneCellFields Try.prog fs = true) (hC : Try.prog.cellsOf e = fs.size) (hv : Value.okWide Try.prog W .any base t v) (h : DataW.Trod enc Try.prog W base' (fun _ => true) true t v d p) (hwt : ∀ n ∈ d.weights Try.prog t, n ≤ reachBytes)
    (hdec : ∀ cs : Array Value, cs.size = fs.size → (∀ (j : Nat) (f : Field), fs[j]? = some f → ∃ u n y, cs[j]? = some u ∧ DataW.trod enc Try.prog W base' (fun _ => true) true n f.type [u] = some y ∧ ∀ n ∈ y.1.weights Try.prog f.type, n ≤ reachBytes) → ∃ x, dec cs x) :
    ∃ l, RowS W fs.size dec v l := by
  obtain ⟨a0, len0, cap0, rfl⟩ := okWide_slice ht hv
  obtain ⟨fuel, hf⟩ := h
  rcases open_slice ht hf with ⟨hcs, _⟩ | ⟨a, len, cap, m, n, D, Pl, hcs, hb, hl, hm, hmm, hx0, hi⟩
  · simp [Value.cells] at hcs
    obtain ⟨rfl, rfl, rfl⟩ := hcs
    exact ⟨[], none, 0, rfl, by simp, fun i h => absurd h (by simp)⟩
  · simp [Value.cells] at hcs
    obtain ⟨rfl, rfl, rfl⟩ := hcs
    simp only [if_true] at hmm
    simp only [Prod.mk.injEq] at hx0
    have hx : ∀ i, i < len0 → ∃ x, ∃ b o cs, a = ⟨b, o, none⟩ ∧ b < W.heap.size ∧ dec cs x ∧ ∀ (j : Nat) u, cs[j]? = some u → W.cell? ⟨b, o + i * fs.size + j, none⟩ = some u := by
      intro i hil
      obtain ⟨cs', hc, ht'⟩ := hi i (by omega)
      rw [hC] at hc
      obtain ⟨ys, n', _, hyD, hlen, hyl, hfy⟩ := DataW.trod_struct he ht'
      simp only [Prod.mk.injEq] at hyD
      obtain ⟨_, hcl, hat⟩ := World.cells?_some hc
      have hsz : cs'.toArray.size = fs.size := by simpa using hcl
      have hfield : ∀ (j : Nat) (f : Field), fs[j]? = some f → ∃ u n y, cs'.toArray[j]? = some u ∧ DataW.trod enc Try.prog W base' (fun _ => true) true n f.type [u] = some y ∧ ∀ n ∈ y.1.weights Try.prog f.type, n ≤ reachBytes := by
        intro j f hj
        obtain ⟨ho, hk⟩ := hone_of hone j f hj
        have hjl : j < fs.size := (Array.getElem?_eq_some_iff.1 hj).1
        have hvj : cs'[j]? = some (cs'[j]'(by omega)) := List.getElem?_eq_getElem (by omega)
        have h1 := hfy j f hj
        rw [ho, hk] at h1
        have hone' : (cs'.drop j).take 1 = [cs'[j]'(by omega)] := by
          rw [List.drop_eq_getElem_cons (by omega)]
          rfl
        rw [hone'] at h1
        have hys : ys[j]? = some (ys[j]'(by omega)) := List.getElem?_eq_getElem (by omega)
        refine ⟨_, n', _, by simp, h1.trans hys, fun q hq => hwt q ?_⟩
        rw [hx0.1]
        have h2 : q ∈ (D i).weights Try.prog e := by
          rw [hyD.1]
          simp only [DataW.weights, he]
          exact DataW.weights_mem_each (j := j) (t := f.type) (by simp [hj]) (by simp [hys]) q hq
        have h3 : q ∈ DataW.weightsAll Try.prog e ((List.range len0).map D) := weightsAll_mem (List.mem_map.2 ⟨i, List.mem_range.2 hil, rfl⟩) h2
        simp only [DataW.weights, ht]
        exact List.mem_cons_of_mem _ (List.mem_append.2 (Or.inl h3))
      obtain ⟨x, hd⟩ := hdec cs'.toArray hsz hfield
      have hcell : ∀ (j : Nat) u, cs'.toArray[j]? = some u → W.cell? (a.add (i * fs.size + j)) = some u := by
        intro j u hj
        have hjl : j < fs.size := by
          have := (Array.getElem?_eq_some_iff.1 hj).1
          omega
        have := hat j hjl
        rw [← Go.Deep.add_add, this]
        simpa using hj
      have h00 := hcell 0 (cs'[0]'(by omega)) (by simp)
      have hsp : a.spot = none := by
        obtain ⟨c0, hc0, _⟩ := hi 0 (by omega)
        rw [hC] at hc0
        obtain ⟨_, hcl0, hat0⟩ := World.cells?_some hc0
        have h1 := hat0 0 (by omega)
        have h2 : c0[0]? = some (c0[0]'(by omega)) := List.getElem?_eq_getElem (by omega)
        rw [h2] at h1
        have h3 := World.cell?_spot h1
        unfold Addr.add at h3
        simpa using h3
      have hae : a = ⟨a.block, a.off, none⟩ := by
        obtain ⟨g, o, s⟩ := a
        simp only at hsp
        subst hsp; rfl
      have hlt : a.block < W.heap.size := by
        have := cell_lt h00
        rw [addr_add a hsp] at this
        exact this
      refine ⟨x, a.block, a.off, cs'.toArray, hae, hlt, hd, fun j u hj => ?_⟩
      have := hcell j u hj
      rw [addr_add a hsp] at this
      rw [Nat.add_assoc]; exact this
    obtain ⟨l, hll, hlp⟩ := list_of hx
    refine ⟨l, some a, cap0, by rw [hll], by rw [hll]; simp only [maxLen] at hm; omega, fun i h => ?_⟩
    obtain ⟨b, o, cs, h1, h2, h3, h4⟩ := hlp i h
    exact ⟨b, o, cs, by rw [h1], h2, h3, h4⟩

/-- a row of numbers, out of a field -/
theorem ints_sized {n : Nat} {y : DataW H × List MemPlace} (h : DataW.trod enc Try.prog W base' (fun _ => true) true n 56 [v] = some y) (hwt : ∀ n ∈ y.1.weights Try.prog 56, n ≤ reachBytes) : ∃ ks, RowInt W v ks ∧ KeepsOk ks ∧ ks.length ≤ 17592186044416 ∧ ((∃ ad n c, v = .slice (some ad) n c) ∨ v = .slice none 0 0) := by
  rcases open_ints Try.underlying56 Try.underlying3 (by kernel_rfl) h with ⟨hcs, _⟩ | ⟨x, len0, cap0, zs, hcs, _, hl, hm, hz, hy0, hcell, hwz⟩
  · simp at hcs
    subst hcs
    exact ⟨[], Or.inl ⟨⟨_, _, rfl⟩, rfl⟩, ⟨by decide, fun x hx => by simp at hx⟩, by decide, Or.inr rfl⟩
  · simp at hcs
    subst hcs
    simp only [if_true] at hz
    have hlen : (zs.take len0).length = len0 := by rw [List.length_take]; omega
    have hsm : len0 ≤ 17592186044416 := by
      have h1 := hwt ((len0 + (zs.length - len0)) * 8) (by
        rw [hy0]
        simp only [DataW.weights, Try.underlying56]
        refine List.mem_cons.2 (Or.inl ?_)
        have hb : Try.prog.bytesOf 3 = 8 := by kernel_rfl
        rw [hb]
        simp only [lits, List.length_map, hlen, List.length_drop])
      unfold reachBytes at h1
      omega
    refine ⟨zs.take len0, ?_, ⟨by rw [hlen]; simp only [maxLen] at hm; omega, fun x hx => ?_⟩, by rw [hlen]; exact hsm, Or.inl ⟨_, _, _, rfl⟩⟩
    · by_cases h0 : len0 = 0
      · subst h0
        exact Or.inl ⟨⟨_, _, rfl⟩, by simp⟩
      · have hsp := World.cell?_spot (hcell 0 (by omega))
        have hsp' : x.spot = none := by
          unfold Addr.add at hsp; simpa using hsp
        refine Or.inr ⟨x.block, x.off, cap0, ?_, fun j hj => ?_⟩
        · rw [hlen]
          obtain ⟨g, o, s⟩ := x
          simp only at hsp'
          subst hsp'; rfl
        · rw [hlen] at hj
          have hc := hcell j (by omega)
          rw [addr_add x hsp'] at hc
          rw [hc, List.getElem_take, List.getD, List.getElem?_eq_getElem (by omega)]; rfl
    · have h1 := hwz x (List.mem_of_mem_take hx)
      have h2 : (decide (IntKind.i64.min ≤ x) && decide (x ≤ IntKind.i64.max)) = true := h1
      simp only [Bool.and_eq_true, decide_eq_true_eq] at h2
      have e1 : IntKind.i64.min = -9223372036854775808 := by decide
      have e2 : IntKind.i64.max = 9223372036854775807 := by decide
      omega
end
end Go.Proofs.Ytjdkhainlcalbaa
