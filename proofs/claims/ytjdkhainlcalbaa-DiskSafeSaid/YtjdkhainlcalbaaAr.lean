/- Rows of numbers and of texts that came in as arguments. -/
import Derived.Test.YtjdkhainlcalbaaDi
import Derived.WalkKit
import Derived.ProofKit
import Derived.OpenShut
import Derived.ChangeOld
import Derived.ChangeMaps5
import Derived.SliceStrings
namespace Go.Proofs.Ytjdkhainlcalbaa
open Go.RowKit Go.Maps Go.ChangeShapes Go.WideShapes Go.ChangeAt

theorem laidOut : laidOutB Try.prog = true := by kernel_rfl

section
variable {H : Type} {enc : TypeId × Value → H} {W : World} {base base' : Nat} {v : Value} {d : DataW H} {p : List MemPlace}
theorem addr_add (x : Addr) (hx : x.spot = none) (i : Nat) : x.add i = ⟨x.block, x.off + i, none⟩ := by
  unfold Addr.add
  obtain ⟨g, o, s⟩ := x
  simp only at hx
  subst hx
  split <;> simp_all

set_option maxRecDepth 100000 in
/-- a row of numbers -/
theorem ints_in (hv : Value.okWide Try.prog W .any base 56 v) (h : DataW.Trod enc Try.prog W base' (fun _ => true) true 56 v d p) : ∃ ks, RowInt W v ks ∧ KeepsOk ks := by
  obtain ⟨a0, len0, cap0, rfl⟩ := okWide_slice Try.underlying56 hv
  obtain ⟨fuel, hf⟩ := h
  rcases open_ints Try.underlying56 Try.underlying3 (by kernel_rfl) hf with ⟨hcs, _⟩ | ⟨x, l, c, zs, hcs, _, hl, hm, hz, _, hcell, hwz⟩
  · simp [Value.cells] at hcs
    obtain ⟨rfl, rfl, rfl⟩ := hcs
    exact ⟨[], Or.inl ⟨⟨_, _, rfl⟩, rfl⟩, by decide, fun x hx => by simp at hx⟩
  · simp [Value.cells] at hcs
    obtain ⟨rfl, rfl, rfl⟩ := hcs
    simp only [if_true] at hz
    have hlen : (zs.take len0).length = len0 := by rw [List.length_take]; omega
    refine ⟨zs.take len0, ?_, by rw [hlen]; simp only [maxLen] at hm; omega, fun x hx => ?_⟩
    · by_cases h0 : len0 = 0
      · subst h0
        exact Or.inl ⟨⟨_, _, rfl⟩, by simp⟩
      · have hsp := World.cell?_spot (hcell 0 (by omega))
        have hsp' : x.spot = none := by
          unfold Addr.add at hsp; simpa using hsp
        refine Or.inr ⟨x.block, x.off, cap0, ?_, fun j hj => ?_⟩
        · rw [hlen]
          obtain ⟨g, o, s⟩ := x
          simp only at hsp'
          subst hsp'; rfl
        · rw [hlen] at hj
          have hc := hcell j (by omega)
          rw [addr_add x hsp'] at hc
          rw [hc, List.getElem_take, List.getD, List.getElem?_eq_getElem (by omega)]; rfl
    · have h1 := hwz x (List.mem_of_mem_take hx)
      have h2 : (decide (IntKind.i64.min ≤ x) && decide (x ≤ IntKind.i64.max)) = true := h1
      simp only [Bool.and_eq_true, decide_eq_true_eq] at h2
      have e1 : IntKind.i64.min = -9223372036854775808 := by decide
      have e2 : IntKind.i64.max = 9223372036854775807 := by decide
      omega

set_option maxRecDepth 100000 in
/-- a row of texts -/
theorem strs_in (hv : Value.okWide Try.prog W .any base 25 v) (h : DataW.Trod enc Try.prog W base' (fun _ => true) true 25 v d p) : ∃ l, ReadsS W v l ∧ l.length ≤ 9223372036854775807 ∧ ∀ s ∈ l, s.size ≤ 9223372036854775807 := by
  obtain ⟨a0, len0, cap0, rfl⟩ := okWide_slice Try.underlying25 hv
  obtain ⟨fuel, hf⟩ := h
  rcases open_strings Try.underlying25 Try.underlying9 (by kernel_rfl) hf with ⟨hcs, _⟩ | ⟨x, l, c, zs, hcs, _, hl, hm, hz, _, hcell, hwz⟩
  · simp [Value.cells] at hcs
    obtain ⟨rfl, rfl, rfl⟩ := hcs
    exact ⟨[], readsS_nil W, by decide, fun x hx => by simp at hx⟩
  · simp [Value.cells] at hcs
    obtain ⟨rfl, rfl, rfl⟩ := hcs
    simp only [if_true] at hz
    have hlen : (zs.take len0).length = len0 := by rw [List.length_take]; omega
    refine ⟨zs.take len0, ⟨some x, cap0, by rw [hlen], fun j hj => ?_⟩, by rw [hlen]; simp only [maxLen] at hm; omega, fun x hx => ?_⟩
    · rw [hlen] at hj
      have hc := hcell j (by omega)
      have hsp := World.cell?_spot (hcell 0 (by omega))
      have hsp' : x.spot = none := by
        unfold Addr.add at hsp; simpa using hsp
      rw [addr_add x hsp'] at hc
      refine ⟨x.block, x.off, ?_, (cell_lt hc : (⟨x.block, x.off + j, none⟩ : Addr).block < _), ?_⟩
      · obtain ⟨g, o, s⟩ := x
        simp only at hsp'
        subst hsp'; rfl
      · rw [hc, List.getElem_take, List.getD, List.getElem?_eq_getElem (by omega)]; rfl
    · have h1 := hwz x (List.mem_of_mem_take hx)
      simp only [maxLen] at h1
      omega
end
end Go.Proofs.Ytjdkhainlcalbaa
