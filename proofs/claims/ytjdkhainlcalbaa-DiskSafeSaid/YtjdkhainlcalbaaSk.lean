/- The keys of a map with string keys, sorted. -/
import Derived.Test.YtjdkhainlcalbaaIt
import Derived.Test.YtjdkhainlcalbaaDd
namespace Go.Proofs.Ytjdkhainlcalbaa
open Go.RowKit Go.Maps Go.Sort Go.Shelf

/-- the names, rising -/
def kvSort (ks : List (List UInt8)) : List (List UInt8) := ks.mergeSort (fun x y => decide (x ≤ y))
def kvNames {α : Type} (l : List (ByteArray × α)) : List ByteArray := (kvSort (l.map (·.1.data.toList))).map strM
  where strM (l : List UInt8) : ByteArray := ⟨l.toArray⟩
theorem kvNames_map {α β : Type} (f : α → β) (l : List (ByteArray × α)) : kvNames (kvMap f l) = kvNames l := by
  unfold kvNames kvMap; rw [List.map_map]; rfl
theorem kvSort_len (ks : List (List UInt8)) : (kvSort ks).length = ks.length := (List.mergeSort_perm ks _).length_eq
theorem kvNames_len {α : Type} (l : List (ByteArray × α)) : (kvNames l).length = l.length := by
  unfold kvNames; rw [List.length_map, kvSort_len, List.length_map]
theorem kvSort_perm {a b : List (List UInt8)} (h : a.Perm b) : kvSort a = kvSort b := by
  have ht : ∀ x y z : List UInt8, decide (x ≤ y) = true → decide (y ≤ z) = true → decide (x ≤ z) = true := by
    intro x y z h1 h2; simp only [decide_eq_true_eq] at *; exact List.le_trans h1 h2
  have hto : ∀ x y : List UInt8, (decide (x ≤ y) || decide (y ≤ x)) = true := by
    intro x y; simp only [Bool.or_eq_true, decide_eq_true_eq]; exact List.le_total x y
  have hp : (kvSort a).Perm (kvSort b) := ((List.mergeSort_perm a _).trans h).trans (List.mergeSort_perm b _).symm
  refine List.Perm.eq_of_pairwise (le := fun x y => decide (x ≤ y) = true) ?_ (List.pairwise_mergeSort ht hto a) (List.pairwise_mergeSort ht hto b) hp
  intro x y _ _ h1 h2
  simp only [decide_eq_true_eq] at h1 h2
  exact List.le_antisymm h1 h2

theorem strKeys_toD (l : List (ByteArray × Value)) : strKeys (toD l) = l.map (·.1.data.toList) := by
  simp [toD, strKeys]
  intro a b _; rfl

theorem keys_any (b : Nat) (w : World) : Calls Try.prog 67 #[.map (some b)] w fun e w' =>
    e = .returned (.func (.func 85) #[] #[.pointer (some ⟨w.heap.size, 0, none⟩)]) ∧ w' = w.alloc (.cells #[.map (some b)] 111) :=
  callsIn_wide.1 (Try.maps_Keys_67 (some b) w)

theorem sorted_any (b : Nat) (l : List (ByteArray × Value)) (w : World) (hown : ownsKV w Try.prog 9 b l) (hl : l.length ≤ 1000000) :
    Calls Try.prog 66 #[.func (.func 85) #[] #[.pointer (some ⟨w.heap.size, 0, none⟩)]] (w.alloc (.cells #[.map (some b)] 111)) fun e w' =>
      ∃ v, e = .returned v ∧ w'.ownsRow w.heap.size 9 1 v (kvNames l).length ((kvNames l).map .string) ∧ Below w.heap.size (w.alloc (.cells #[.map (some b)] 111)) w' := by
  have hs : Maps.size (toD l) = l.length := by simp [toD, Maps.size]
  refine (callsIn_wide.1 (Try.slices_Sorted_keys_66_67 b l.length (toD l) heldR w hown (by rw [hs]; unfold maxLen; omega) (by rw [hs]; omega))).mono ?_
  rintro e w' ⟨v, ss, rfl, hp, ho, _, hb⟩
  refine ⟨v, rfl, ?_, hb.mono (by simp)⟩
  rw [strKeys_toD] at hp
  have h1 : ss.length = (kvNames l).length := by rw [kvNames_len, hp.length_eq, List.length_map]
  have h2 : (ss.mergeSort (fun x y => decide (x ≤ y))).map encStr = (kvNames l).map .string := by
    unfold kvNames; rw [List.map_map, ← kvSort_perm hp]; rfl
  rw [h1, h2] at ho
  obtain ⟨q1, q2⟩ := ho
  refine ⟨q1, q2.imp id ?_⟩
  rintro ⟨g, cap, cur, r1, r2, r3⟩
  exact ⟨g, cap, cur, r1, by simp at r2; omega, r3⟩
end Go.Proofs.Ytjdkhainlcalbaa
