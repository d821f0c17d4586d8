/- A crash, plainly. -/
import Derived.Test.YtjdkhainlcalbaaDe
import Derived.Test.YtjdkhainlcalbaaSk
namespace Go.Proofs.Ytjdkhainlcalbaa
open Go.RowKit Go.Maps

/-- a step is kept or passed over -/
def leftStep (ks : List Int) (left : List (ByteArray × Nat)) (i : Nat) (s : Sp) : List (ByteArray × Nat) :=
  if sayI ks i % 2 = 0 then left else
  if s.kind = 1 ∧ kvGet left s.src = none then kvPut left s.src s.id else
  if s.kind = 2 ∧ kvGet left s.src = some s.id then kvPut (kvDel left s.src) s.dst s.id else
  if s.kind = 3 ∧ kvGet left s.src = some s.id then kvDel left s.src else left
/-- behind so many steps -/
def Dk.leftAt (D : Dk) (ks : List Int) : Nat → List (ByteArray × Nat)
  | 0 => D.sure
  | k + 1 => match D.steps[k]? with
    | none => D.leftAt ks k
    | some s => leftStep ks (D.leftAt ks k) k s
def Dk.left (D : Dk) (ks : List Int) : List (ByteArray × Nat) := D.leftAt ks D.steps.length
/-- how much of a file is left, that has the place i among the names -/
def Dk.keepN (D : Dk) (ks : List Int) (i id : Nat) : Nat :=
  (D.flAt id).safe + (sayI ks (D.steps.length + i) % (((D.flAt id).data.size - (D.flAt id).safe + 1 : Nat) : Int)).toNat
def Dk.leftFile (D : Dk) (ks : List Int) (i : Nat) (name : ByteArray) : Fl :=
  let id := (kvGet (D.left ks) name).getD 0
  ⟨(D.flAt id).data.extract 0 (D.keepN ks i id), D.keepN ks i id⟩
def Dk.leftNames (D : Dk) (ks : List Int) : List ByteArray := kvNames (D.left ks)
/-- the first k files that are left, and their folder -/
def Dk.newFiles (D : Dk) (ks : List Int) (k : Nat) : List Fl := (List.range k).map fun i => D.leftFile ks i ((D.leftNames ks).getD i ByteArray.empty)
def Dk.newFolder (D : Dk) (ks : List Int) : Nat → List (ByteArray × Nat)
  | 0 => []
  | k + 1 => kvPut (D.newFolder ks k) ((D.leftNames ks).getD k ByteArray.empty) k
def Dk.crash (D : Dk) (ks : List Int) : Dk :=
  { room := D.room, files := D.newFiles ks (D.leftNames ks).length, folder := D.newFolder ks (D.leftNames ks).length, sure := D.newFolder ks (D.leftNames ks).length, steps := [], arm := -1, dead := false }

/-- what holds of what is left -/
structure LeftOk (D : Dk) (l : List (ByteArray × Nat)) : Prop where
  ids : ∀ p ∈ l, p.2 < D.files.length
  nam : ∀ p ∈ l, p.1.size ≤ 80
  apart : kvApart l
theorem LeftOk.put {D : Dk} {l : List (ByteArray × Nat)} (h : LeftOk D l) (k : ByteArray) (v : Nat) (hk : k.size ≤ 80) (hv : v < D.files.length) : LeftOk D (kvPut l k v) where
  ids := fun p hp => (kvPut_mem hp).elim (fun e => by rw [e]; exact hv) (h.ids p)
  nam := fun p hp => (kvPut_mem hp).elim (fun e => by rw [e]; exact hk) (h.nam p)
  apart := kvApart_put k v h.apart
theorem LeftOk.del {D : Dk} {l : List (ByteArray × Nat)} (h : LeftOk D l) (k : ByteArray) : LeftOk D (kvDel l k) where
  ids := fun p hp => h.ids p (kvDel_mem hp)
  nam := fun p hp => h.nam p (kvDel_mem hp)
  apart := kvApart_del k h.apart
theorem LeftOk.step {D : Dk} {l : List (ByteArray × Nat)} (h : LeftOk D l) (ks : List Int) (i : Nat) (s : Sp) (hs : s.id < D.files.length ∧ s.src.size ≤ 80 ∧ s.dst.size ≤ 80) : LeftOk D (leftStep ks l i s) := by
  unfold leftStep
  split
  · exact h
  · split
    · exact h.put _ _ hs.2.1 hs.1
    · split
      · exact (h.del _).put _ _ hs.2.2 hs.1
      · split
        · exact h.del _
        · exact h
theorem DkOk.leftAt {D : Dk} (h : DkOk D) (ks : List Int) (k : Nat) : LeftOk D (D.leftAt ks k) := by
  induction k with
  | zero => exact ⟨h.sur, h.snm, h.sap⟩
  | succ k ih =>
    unfold Dk.leftAt
    split
    · exact ih
    · next s hs => exact ih.step ks k s (h.stp s (List.mem_of_getElem? hs))
theorem leftStep_len (ks : List Int) (l : List (ByteArray × Nat)) (i : Nat) (s : Sp) : (leftStep ks l i s).length ≤ l.length + 1 := by
  unfold leftStep
  split
  · omega
  · split
    · exact kvPut_len _ _ _
    · split
      · exact Nat.le_trans (kvPut_len _ _ _) (Nat.succ_le_succ (kvDel_len _ _))
      · split
        · exact Nat.le_trans (kvDel_len _ _) (Nat.le_succ _)
        · omega
theorem Dk.leftAt_len (D : Dk) (ks : List Int) (k : Nat) : (D.leftAt ks k).length ≤ D.sure.length + k := by
  induction k with
  | zero => exact Nat.le_refl _
  | succ k ih =>
    unfold Dk.leftAt
    split
    · omega
    · exact Nat.le_trans (leftStep_len _ _ _ _) (by omega)
theorem Dk.leftAt_succ (D : Dk) (ks : List Int) (k : Nat) (h : k < D.steps.length) : D.leftAt ks (k + 1) = leftStep ks (D.leftAt ks k) k D.steps[k] := by
  show (match D.steps[k]? with | none => D.leftAt ks k | some s => leftStep ks (D.leftAt ks k) k s) = _
  rw [List.getElem?_eq_getElem h]
theorem Dk.newFolder_len (D : Dk) (ks : List Int) (k : Nat) : (D.newFolder ks k).length ≤ k := by
  induction k with
  | zero => exact Nat.le_refl _
  | succ k ih => exact Nat.le_trans (kvPut_len _ _ _) (by omega)
end Go.Proofs.Ytjdkhainlcalbaa
