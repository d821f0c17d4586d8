/- The index: the two loops of reading, step by step. -/
import Derived.Test.YtopmanmjggcfaaaIe
namespace Go.Proofs.Ytopmanmjggcfaaa
open Go.RowKit

/-- what is read behind some packs -/
def dec1 (n : Nat) (P : List ByteArray) (s : ByteArray) (b : Bool) : Option Ix :=
  if (numI (rdPs n s b).2.1 (rdPs n s b).2.2).2.2 = true ∨ dupP (P ++ (rdPs n s b).1) = true then none
  else decQ (P ++ (rdPs n s b).1) (numI (rdPs n s b).2.1 (rdPs n s b).2.2).1 ⟨#[]⟩ [] (numI (rdPs n s b).2.1 (rdPs n s b).2.2).2.1
theorem decI_dec1 (s : ByteArray) : decI s = dec1 (numI s false).1 [] (numI s false).2.1 (numI s false).2.2 := rfl
theorem dec1_bad (n : Nat) (P : List ByteArray) (s : ByteArray) : dec1 n P s true = none := by
  unfold dec1
  rw [rdPs_bad, numI_bad, if_pos (Or.inl rfl)]
theorem dec1_step (n : Nat) (P : List ByteArray) (s : ByteArray) : dec1 (n + 1) P s false = dec1 n (P ++ [(txI s false).1]) (txI s false).2.1 (txI s false).2.2 := by
  unfold dec1
  have h : rdPs (n + 1) s false = ((txI s false).1 :: (rdPs n (txI s false).2.1 (txI s false).2.2).1, (rdPs n (txI s false).2.1 (txI s false).2.2).2) := by
    simp only [rdPs]
    rw [if_neg (by simp)]
  rw [h]
  simp only [List.append_assoc, List.singleton_append]
theorem dupP_twice {P r : List ByteArray} {t : ByteArray} (h : hasP P t = true) : dupP (P ++ t :: r) = true := by
  cases e : dupP (P ++ t :: r)
  · exact absurd (dupP_iff.1 e) fun hd => by
      rw [List.nodup_append] at hd
      exact hd.2.2 t (hasP_iff.1 h) t (by simp) rfl
  · rfl
theorem dec1_dup (n : Nat) (P : List ByteArray) (s : ByteArray) (h : hasP P (txI s false).1 = true) : dec1 (n + 1) P s false = none := by
  unfold dec1
  refine if_pos (Or.inr ?_)
  simp only [rdPs]
  rw [if_neg (by simp)]
  exact dupP_twice h
theorem dec1_zero {P : List ByteArray} (hd : P.Nodup) (s : ByteArray) (b : Bool) : dec1 0 P s b = if (numI s b).2.2 = true then none else decQ P (numI s b).1 ⟨#[]⟩ [] (numI s b).2.1 := by
  unfold dec1
  simp only [rdPs, List.append_nil]
  by_cases h : (numI s b).2.2 = true
  · rw [if_pos (Or.inl h), if_pos h]
  · rw [if_neg h, if_neg]
    rintro (e | e)
    · exact h e
    · rw [dupP_iff.2 hd] at e; cases e
theorem decQ_ref {packs : List ByteArray} (n : Nat) {last : ByteArray} (acc : List Pl) {s : ByteArray} (h : refQ packs last (rdH s false)) : decQ packs (n + 1) last acc s = none := by
  unfold decQ
  have : rdQ packs (n + 1) last s = none := by
    simp only [rdQ]
    rw [if_pos h]
  rw [this]
theorem decQ_step {packs : List ByteArray} (n : Nat) {last : ByteArray} (acc : List Pl) {s : ByteArray} (h : ¬ refQ packs last (rdH s false)) :
    decQ packs (n + 1) last acc s = decQ packs n (rdH s false).1.name (acc ++ [⟨packs.getD (rdH s false).2.1 ⟨#[]⟩, (rdH s false).1⟩]) (rdH s false).2.2.1 := by
  unfold decQ
  have : rdQ packs (n + 1) last s = (rdQ packs n (rdH s false).1.name (rdH s false).2.2.1).map fun q => (⟨packs.getD (rdH s false).2.1 ⟨#[]⟩, (rdH s false).1⟩ :: q.1, q.2) := by
    simp only [rdQ]
    rw [if_neg h]
  rw [this]
  cases rdQ packs n (rdH s false).1.name (rdH s false).2.2.1 with
  | none => rfl
  | some q => simp only [Option.map_some, List.append_assoc, List.singleton_append]
theorem decQ_zero (packs : List ByteArray) (last : ByteArray) (acc : List Pl) (s : ByteArray) : decQ packs 0 last acc s = if s.size = 0 then some ⟨packs, keyed acc⟩ else none := by
  unfold decQ
  simp only [rdQ, List.append_nil]
/-- places that are read come behind those that were -/
def Rise (acc : List Pl) (last : ByteArray) : Prop := ∀ p ∈ keyed acc, ¬ last.data.toList < p.1.data.toList
theorem rise_put {acc : List Pl} {last : ByteArray} {p : Pl} (h : Rise acc last) (hl : last.data.toList < p.head.name.data.toList) : kvPut (keyed acc) p.head.name p = keyed (acc ++ [p]) ∧ Rise (acc ++ [p]) p.head.name := by
  have hk : keyed (acc ++ [p]) = keyed acc ++ [(p.head.name, p)] := by simp [keyed]
  have ha : ∀ q ∈ keyed acc, q.1.data.toList < p.head.name.data.toList := fun q hq => List.lt_of_le_of_lt (List.not_lt.1 (h q hq)) hl
  refine ⟨by rw [hk]; exact kvPut_end p ha, ?_⟩
  intro q hq
  rw [hk, List.mem_append] at hq
  rcases hq with hq | hq
  · exact List.lt_asymm (ha q hq)
  · obtain rfl : q = (p.head.name, p) := by simpa using hq
    exact List.lt_irrefl _
end Go.Proofs.Ytopmanmjggcfaaa
