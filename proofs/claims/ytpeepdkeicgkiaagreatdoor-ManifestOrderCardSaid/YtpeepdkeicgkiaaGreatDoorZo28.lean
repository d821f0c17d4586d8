/- ManifestOrder: plain law. -/
import Derived.Test.YtpeepdkeicgkiaaGreatDoorZo27
namespace Go.Proofs.YtpeepdkeicgkiaaGreatDoor
set_option linter.unusedVariables false
set_option linter.unusedSimpArgs false
set_option linter.unusedSectionVars false
open Go.RowKit Go.Maps Go.Shelf Go.Lib Go.Sort

theorem same_mload {D E : Dk} (hd : D.dead = false) (he : E.dead = false) (h : ∀ n, D.has n = E.has n) (id : ByteArray) : D.mload id = E.mload id := by
  unfold Dk.mload Dk.load
  rw [read_has hd, read_has he, h]
theorem same_snaps {D E : Dk} (hd : D.dead = false) (he : E.dead = false) (aD : kvApart D.folder) (aE : kvApart E.folder) (h : ∀ n, D.has n = E.has n) : D.snaps = E.snaps ∧ D.tagOf = E.tagOf := by
  have hm : D.mload = E.mload := funext (same_mload hd he h)
  have hn : D.names frontS = E.names frontS := by
    unfold Dk.names
    rw [names_same aD aE fun n => by rw [h]]
  have ht : D.tagOf = E.tagOf := by funext id; unfold Dk.tagOf; rw [hm]
  have hs : D.snOf = E.snOf := by funext id; unfold Dk.snOf; simp only [hm]
  have ho : D.okId = E.okId := by funext id; unfold Dk.okId; rw [hm]
  refine ⟨?_, ht⟩
  unfold Dk.snaps Dk.goodsL
  rw [hn, hs, ho]
/-- what a manifest is written as -/
def encM (m : Man) : ByteArray := if goodM (fewM m) = true then bs (manL (fewM m)) else ⟨#[]⟩
theorem encM_size (m : Man) : (encM m).size ≤ 2200 := by
  unfold encM
  split
  · next h => exact few_size h
  · exact Nat.zero_le _
/-- those of these numbers are published -/
structure Ord (l : List Man) (P : Nat → Prop) (k : Nat) (D : Dk) : Prop where
  rest : Rest D 1048576 k k 2200
  named : Named D
  dom : ∀ n, (D.has n).isSome = true ↔ ∃ i, ∃ h : i < l.length, P i ∧ goodM (fewM l[i]) = true ∧ n = snapN (bs (manL (fewM l[i])))
  val : ∀ n s, D.has n = some s → ∃ i, ∃ h : i < l.length, P i ∧ goodM (fewM l[i]) = true ∧ n = snapN (bs (manL (fewM l[i]))) ∧ s = bs (manL (fewM l[i]))
theorem Ord.zero (l : List Man) : Ord l (fun _ => False) 0 (dkNew 1048576) := by
  refine ⟨Rest.new _ (by decide) _, Named.new _, fun n => ?_, fun n s h => by cases h⟩
  rw [has_new]
  constructor
  · intro h; cases h
  · rintro ⟨i, h, hp, _⟩; exact hp.elim
theorem Ord.step {l : List Man} {P : Nat → Prop} {k : Nat} {D : Dk} (h : Ord l P k D) {i : Nat} (hi : i < l.length) : Ord l (fun j => P j ∨ j = i) (k + 1) (D.pubM (fewM l[i])) := by
  refine ⟨pubM_rest h.rest _, pubM_named h.rest.ok h.named _, fun n => ?_, fun n s hs => ?_⟩
  · rw [pubM_has h.rest.ok]
    by_cases hc : goodM (fewM l[i]) = true ∧ n = snapN (bs (manL (fewM l[i])))
    · rw [if_pos hc]
      exact ⟨fun _ => ⟨i, hi, .inr rfl, hc.1, hc.2⟩, fun _ => rfl⟩
    · rw [if_neg hc, h.dom]
      constructor
      · rintro ⟨j, hj, hp, hg, hn⟩; exact ⟨j, hj, .inl hp, hg, hn⟩
      · rintro ⟨j, hj, hp, hg, hn⟩
        rcases hp with hp | rfl
        · exact ⟨j, hj, hp, hg, hn⟩
        · exact absurd ⟨hg, hn⟩ hc
  · rw [pubM_has h.rest.ok] at hs
    by_cases hc : goodM (fewM l[i]) = true ∧ n = snapN (bs (manL (fewM l[i])))
    · rw [if_pos hc] at hs
      exact ⟨i, hi, .inr rfl, hc.1, hc.2, (Option.some.inj hs).symm⟩
    · rw [if_neg hc] at hs
      obtain ⟨j, hj, hp, hg, hn, he⟩ := h.val n s hs
      exact ⟨j, hj, .inl hp, hg, hn, he⟩
theorem Ord.congr {l : List Man} {P Q : Nat → Prop} {k : Nat} {D : Dk} (h : Ord l P k D) (hpq : ∀ j, j < l.length → (P j ↔ Q j)) : Ord l Q k D := by
  refine ⟨h.rest, h.named, fun n => ?_, fun n s hs => ?_⟩
  · rw [h.dom]
    constructor
    · rintro ⟨j, hj, hp, hg, hn⟩; exact ⟨j, hj, (hpq j hj).1 hp, hg, hn⟩
    · rintro ⟨j, hj, hp, hg, hn⟩; exact ⟨j, hj, (hpq j hj).2 hp, hg, hn⟩
  · obtain ⟨j, hj, hp, hg, hn⟩ := h.val n s hs
    exact ⟨j, hj, (hpq j hj).1 hp, hg, hn⟩
/-- two disks with those of the same numbers -/
theorem Ord.len {l : List Man} {P : Nat → Prop} {k k' : Nat} {D E : Dk} (h : Ord l P k D) (h' : Ord l P k' E) : D.snaps.length = E.snaps.length := by
  rw [h.named.snaps_len h.rest.calm.dead h.rest.ok.fap, h'.named.snaps_len h'.rest.calm.dead h'.rest.ok.fap, ← kvNames_len, ← kvNames_len]
  rw [names_same h.rest.ok.fap h'.rest.ok.fap fun n => by rw [Bool.eq_iff_iff, h.dom, h'.dom]]
/-- no two unlike ones have one name -/
def NoCol (l : List Man) (n : Nat) : Prop := ∀ i k (hi : i < l.length) (hk : k < l.length), i < n → k < i → encM l[i] ≠ encM l[k] → nameS (encM l[i]) ≠ nameS (encM l[k])
theorem NoCol.both {l : List Man} {n : Nat} (h : NoCol l n) {i k : Nat} (hi : i < l.length) (hk : k < l.length) (hin : i < n) (hkn : k < n) (e : nameS (encM l[i]) = nameS (encM l[k])) : encM l[i] = encM l[k] := by
  by_cases hik : i = k
  · subst hik; rfl
  · by_cases hne : encM l[i] = encM l[k]
    · exact hne
    · exfalso
      rcases Nat.lt_or_gt_of_ne hik with a | a
      · exact h k i hk hi hkn a (fun q => hne q.symm) e.symm
      · exact h i k hi hk hin a hne e
theorem Ord.same {l : List Man} {P : Nat → Prop} {k k' n : Nat} {D E : Dk} (h : Ord l P k D) (h' : Ord l P k' E) (hc : NoCol l n) (hP : ∀ j, P j → j < n) : D.snaps = E.snaps ∧ D.tagOf = E.tagOf := by
  refine same_snaps h.rest.calm.dead h'.rest.calm.dead h.rest.ok.fap h'.rest.ok.fap fun x => ?_
  have key : ∀ {D E : Dk} {k k' : Nat}, Ord l P k D → Ord l P k' E → ∀ s, D.has x = some s → E.has x = some s := by
    intro D E k k' h h' s hs
    obtain ⟨i, hi, hp, hg, hn, he⟩ := h.val x s hs
    have h2 := (h'.dom x).2 ⟨i, hi, hp, hg, hn⟩
    obtain ⟨t, ht⟩ := Option.isSome_iff_exists.1 h2
    obtain ⟨j, hj, hp2, hg2, hn2, he2⟩ := h'.val x t ht
    have ei : encM l[i] = bs (manL (fewM l[i])) := if_pos hg
    have ej : encM l[j] = bs (manL (fewM l[j])) := if_pos hg2
    have hname : nameS (encM l[i]) = nameS (encM l[j]) := by
      rw [ei, ej]
      exact front_inj (hn.symm.trans hn2)
    have := hc.both hi hj (hP i hp) (hP j hp2) hname
    rw [ei, ej] at this
    rw [ht, he2, ← this, he]
  cases hD : D.has x with
  | some s => exact (key h h' s hD).symm
  | none =>
    cases hE : E.has x with
    | none => rfl
    | some t => have := key h' h t hE; rw [hD] at this; cases this
/-- which one is published: forward, or from behind -/
def ixO (kk n i : Nat) : Nat := if kk = 1 then n - 1 - i else i
def PO (kk n k : Nat) : Nat → Prop := fun j => ∃ i, i < k ∧ ixO kk n i = j
theorem PO_full {kk n : Nat} (j : Nat) : PO kk n n j ↔ j < n := by
  unfold PO ixO
  constructor
  · rintro ⟨i, hi, rfl⟩; split <;> omega
  · intro hj
    by_cases h : kk = 1
    · exact ⟨n - 1 - j, by omega, by rw [if_pos h]; omega⟩
    · exact ⟨j, hj, if_neg h⟩
theorem PO_succ {kk n k : Nat} (j : Nat) : (PO kk n k j ∨ j = ixO kk n k) ↔ PO kk n (k + 1) j := by
  unfold PO
  constructor
  · rintro (⟨i, hi, e⟩ | e)
    · exact ⟨i, by omega, e⟩
    · exact ⟨k, by omega, e.symm⟩
  · rintro ⟨i, hi, e⟩
    by_cases h : i = k
    · subst h; exact .inr e.symm
    · exact .inl ⟨i, by omega, e⟩
theorem PO_zero {kk n : Nat} (j : Nat) : False ↔ PO kk n 0 j := ⟨False.elim, fun ⟨i, hi, _⟩ => by omega⟩
end Go.Proofs.YtpeepdkeicgkiaaGreatDoor
