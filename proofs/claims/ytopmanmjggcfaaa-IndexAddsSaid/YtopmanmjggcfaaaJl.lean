/- The index's laws: the plain law of IndexElder and IndexBack. -/
import Derived.Test.YtopmanmjggcfaaaIe
namespace Go.Proofs.Ytopmanmjggcfaaa
open Go.RowKit

/-- is there an elder head of the same name? -/
def twiceH (F : List Hd) (i : Nat) (nm : ByteArray) : Bool := (F.take i).any fun h => decide (h.name = nm)
/-- the places behind the heads from the last down to number i, each that has no elder -/
def yPl (pack : ByteArray) (F : List Hd) : Nat → List (ByteArray × Pl)
  | 0 => []
  | n + 1 => if twiceH F (F.length - (n + 1)) (F.getD (F.length - (n + 1)) ⟨⟨#[]⟩, 0, 0, 0, 0, 0⟩).name = true then yPl pack F n else addH pack (yPl pack F n) (F.getD (F.length - (n + 1)) ⟨⟨#[]⟩, 0, 0, 0, 0, 0⟩)
theorem yPl_up (pack : ByteArray) (F : List Hd) : ∀ n, kvUp (yPl pack F n)
  | 0 => List.Pairwise.nil
  | n + 1 => by
    unfold yPl
    split
    · exact yPl_up pack F n
    · exact addH_up (yPl_up pack F n)
theorem twiceH_iff {F : List Hd} {i : Nat} {nm : ByteArray} : twiceH F i nm = true ↔ ∃ j, ∃ h : j < F.length, j < i ∧ F[j].name = nm := by
  unfold twiceH
  simp only [List.any_eq_true, decide_eq_true_eq]
  constructor
  · rintro ⟨h, hm, rfl⟩
    obtain ⟨j, hj, rfl⟩ := List.mem_take_iff_getElem.1 hm
    exact ⟨j, by omega, by omega, rfl⟩
  · rintro ⟨j, hj, hji, rfl⟩
    exact ⟨F[j], List.mem_take_iff_getElem.2 ⟨j, by omega, rfl⟩, rfl⟩
theorem yPl_get (pack : ByteArray) (F : List Hd) : ∀ n, n ≤ F.length → ∀ k, kvGet (yPl pack F n) k = ((F.drop (F.length - n)).find? fun h => decide (h.name = k) && !twiceH F (F.length - n) k).map fun h => ⟨pack, h⟩
  | 0, _, k => by simp [yPl, kvGet]
  | n + 1, hn, k => by
    have ih := yPl_get pack F n (by omega) k
    have hi : F.length - (n + 1) < F.length := by omega
    have hg : F.getD (F.length - (n + 1)) ⟨⟨#[]⟩, 0, 0, 0, 0, 0⟩ = F[F.length - (n + 1)] := by rw [List.getD_eq_getElem?_getD, List.getElem?_eq_getElem hi]; rfl
    have he : F.length - n = F.length - (n + 1) + 1 := by omega
    rw [he] at ih
    rw [List.drop_eq_getElem_cons hi, yPl, hg]
    generalize hI : F.length - (n + 1) = i at *
    have htw : twiceH F (i + 1) k = (twiceH F i k || decide (F[i].name = k)) := by
      unfold twiceH
      rw [List.take_succ_eq_append_getElem hi, List.any_append]
      simp
    by_cases hk : F[i].name = k
    · rw [decide_eq_true hk, Bool.or_true] at htw
      have hno : kvGet (yPl pack F n) k = none := by
        rw [ih, htw]
        simp
      cases ht : twiceH F i k with
      | true =>
        rw [hk, ht, if_pos rfl, hno, List.find?_eq_none.2 (by simp)]
        rfl
      | false =>
        rw [hk, ht, if_neg (by simp), addH_get (yPl_up pack F n), hno, if_pos hk.symm, List.find?_cons_of_pos (by simp [hk])]
        rfl
    · rw [decide_eq_false hk, Bool.or_false] at htw
      have h1 : kvGet (if twiceH F i F[i].name = true then yPl pack F n else addH pack (yPl pack F n) F[i]) k = kvGet (yPl pack F n) k := by
        split
        · rfl
        · rw [addH_get (yPl_up pack F n), if_neg (fun e => hk e.symm), Option.or_none]
      rw [h1, ih, htw, List.find?_cons_of_neg (by simp [hk])]
/-- THE LAW: whatever order its heads come in, a pack's places are the same -/
theorem yPl_all (pack : ByteArray) (F : List Hd) : yPl pack F F.length = F.foldl (addH pack) [] := by
  refine kvUp_ext (yPl_up pack F _) (adds_up F List.Pairwise.nil) fun k => ?_
  rw [yPl_get pack F _ (Nat.le_refl _) k, adds_get F (List.Pairwise.nil) k, Nat.sub_self, List.drop_zero]
  simp [kvGet, twiceH]
theorem yPl_len (pack : ByteArray) (F : List Hd) : ∀ n, (yPl pack F n).length ≤ n
  | 0 => by simp [yPl]
  | n + 1 => by
    have := yPl_len pack F n
    unfold yPl
    split
    · omega
    · exact Nat.le_trans (addH_len _ _) (by omega)
theorem enc_bound {X : Ix} (S : Nat) (hp : X.packs.length ≤ 1000) (hq : X.places.length ≤ 1000) (h1 : ∀ t ∈ X.packs, t.size ≤ S) (h2 : ∀ p ∈ X.places, p.2.head.name.size ≤ S) : (encI X).length ≤ 1000 * (S + 11) + 1000 * (S + 77) + 22 := by
  have hv : ∀ n, (varL n).length ≤ 11 := fun n => (varF_len 10 n).2
  have a1 : (packsL X.packs).length ≤ X.packs.length * (S + 11) := by
    unfold packsL
    have : ∀ l : List ByteArray, (∀ t ∈ l, t.size ≤ S) → ((l.map textL).flatten).length ≤ l.length * (S + 11) := by
      intro l
      induction l with
      | nil => simp
      | cons y r ih =>
        intro h
        have i1 := ih (fun t ht => h t (by simp [ht]))
        have i2 := h y (by simp)
        have i3 := hv y.size
        simp only [List.map_cons, List.flatten_cons, List.length_append, List.length_cons, Nat.succ_mul]
        have i4 : (textL y).length = (varL y.size).length + y.size := by unfold textL; rw [List.length_append, ba_len]
        omega
    exact this _ h1
  have a2 : (plsL X.packs X.places).length ≤ X.places.length * (S + 77) := by
    unfold plsL
    have : ∀ l : List (ByteArray × Pl), (∀ p ∈ l, p.2.head.name.size ≤ S) → ((l.map fun p => plL X.packs p.2).flatten).length ≤ l.length * (S + 77) := by
      intro l
      induction l with
      | nil => simp
      | cons y r ih =>
        intro h
        have i1 := ih (fun t ht => h t (by simp [ht]))
        have i2 := h y (by simp)
        simp only [List.map_cons, List.flatten_cons, List.length_append, List.length_cons, Nat.succ_mul]
        have i4 : (plL X.packs y.2).length ≤ S + 77 := by
          unfold plL textL
          simp only [List.length_append, ba_len]
          have j0 := hv y.2.head.name.size
          have j1 := hv (idxP X.packs y.2.pack)
          have j2 := hv y.2.head.method.toNat
          have j3 := hv y.2.head.crc.toNat
          have j4 := hv y.2.head.packed.toNat
          have j5 := hv y.2.head.size.toNat
          have j6 := hv y.2.head.at_.toNat
          omega
        omega
    exact this _ h2
  have b1 : X.packs.length * (S + 11) ≤ 1000 * (S + 11) := Nat.mul_le_mul_right _ hp
  have b2 : X.places.length * (S + 77) ≤ 1000 * (S + 77) := Nat.mul_le_mul_right _ hq
  have b3 := hv X.packs.length
  have b4 := hv X.places.length
  rw [encI_len]
  omega
/-- an index of so many packs and places, all of whose numbers fit -/
structure Ix.Few (X : Ix) (np nq : Nat) : Prop where
  ok : X.Ok
  np : X.packs.length ≤ np
  nq : X.places.length ≤ nq
  sp : ∀ t ∈ X.packs, t.size ≤ 140737488355328
  sq : ∀ p ∈ X.places, p.2.head.name.size ≤ 140737488355328 ∧ HdB p.2.head
theorem Ix.few_none : (⟨[], []⟩ : Ix).Few 0 0 := ⟨Ix.ok_none, Nat.le_refl _, Nat.le_refl _, (fun _ h => by cases h), (fun _ h => by cases h)⟩
theorem Ix.Few.add {X : Ix} {np nq : Nat} (h : X.Few np nq) (pack : ByteArray) (hs : List Hd) (hp : pack.size ≤ 140737488355328) (hh : ∀ g ∈ hs, g.name.size ≤ 140737488355328 ∧ HdB g) : (X.add pack hs).Few (np + 1) (nq + hs.length) := by
  refine ⟨h.ok.add pack hs, ?_, ?_, ?_, ?_⟩
  · have := addP_len X.packs pack
    have h2 := h.np
    unfold Ix.add
    simp only
    omega
  · have := adds_len (pack := pack) hs X.places
    have h2 := h.nq
    unfold Ix.add
    simp only
    omega
  · intro t ht
    rcases addP_mem.1 (show t ∈ addP X.packs pack from ht) with e | rfl
    · exact h.sp t e
    · exact hp
  · intro p hp'
    rcases adds_mem hs (show p ∈ hs.foldl (addH pack) X.places from hp') with e | ⟨g, hg, rfl⟩
    · exact h.sq p e
    · exact hh g hg
theorem Ix.Few.wr {X : Ix} {np nq : Nat} (h : X.Few np nq) (h1 : np ≤ 1000) (h2 : nq ≤ 1000) : X.Wr := by
  have a := h.np
  have b := h.nq
  refine ⟨h.ok, by omega, by omega, h.sp, fun p hp => ⟨by rw [h.ok.key p hp]; exact (h.sq p hp).1, (h.sq p hp).2⟩, ?_⟩
  exact Nat.le_trans (enc_bound 140737488355328 (by omega) (by omega) h.sp fun p hp => (h.sq p hp).1) (by decide)
end Go.Proofs.Ytopmanmjggcfaaa
