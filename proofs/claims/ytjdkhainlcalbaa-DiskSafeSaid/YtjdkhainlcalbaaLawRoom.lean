/- The law DiskRoom: its disk. -/
import Derived.Test.YtjdkhainlcalbaaLawDies
import Derived.Test.YtjdkhainlcalbaaWg
namespace Go.Proofs.Ytjdkhainlcalbaa
open Go.RowKit Go.Maps

theorem sum_perm {l m : List Nat} (h : l.Perm m) : l.sum = m.sum := by
  induction h with
  | nil => rfl
  | cons x _ ih => simp [ih]
  | swap x y l => simp; omega
  | trans _ _ h1 h2 => exact h1.trans h2
theorem kvSum_perm {α : Type} (f : α → Nat) {l m : List (ByteArray × α)} (h : l.Perm m) : kvSum f l = kvSum f m := sum_perm (h.map _)
theorem kvSum_put {α : Type} (f : α → Nat) (l : List (ByteArray × α)) (k : ByteArray) (v : α) : kvSum f (kvPut l k v) = f v + kvSum f (kvDel l k) := by
  rw [kvSum_perm f (kvPut_perm l k v)]; simp [kvSum]
theorem kvGet_none_ne {α : Type} {l : List (ByteArray × α)} {k : ByteArray} (h : kvGet l k = none) : ∀ p ∈ l, p.1 ≠ k := by
  intro p hp e
  unfold kvGet at h
  rw [Option.map_eq_none_iff, List.find?_eq_none] at h
  exact h p hp (by simp [e])
theorem kvGet_none_of {α : Type} {l : List (ByteArray × α)} {k : ByteArray} (h : ∀ p ∈ l, p.1 ≠ k) : kvGet l k = none := by
  unfold kvGet
  rw [Option.map_eq_none_iff, List.find?_eq_none]
  intro p hp; simpa using h p hp
theorem kvSum_congr {α : Type} {f g : α → Nat} {l : List (ByteArray × α)} (h : ∀ p ∈ l, f p.2 = g p.2) : kvSum f l = kvSum g l := by
  unfold kvSum; rw [List.map_congr_left h]
/-- what a new file adds -/
theorem used_put {D : Dk} (h : DkOk D) {name : ByteArray} (hg : kvGet D.folder name = none) (data : ByteArray) : (D.put name data).used = D.used + data.size := by
  unfold Dk.put
  rw [hg]
  show kvSum (fun i => ((D.files ++ [(⟨data, 0⟩ : Fl)]).getD i ⟨ByteArray.empty, 0⟩).data.size) (kvPut D.folder name D.files.length) = _
  rw [kvSum_put, kvDel_noop (kvGet_none_ne hg), kvSum_congr (g := fun i => (D.flAt i).data.size)]
  · simp [List.getD, Dk.used, Nat.add_comm]
  · intro p hp
    have := h.fol p hp
    simp [List.getD, Dk.flAt, List.getElem?_append_left this]
/-- what a file that is removed leaves -/
theorem used_del {D : Dk} (h : DkOk D) {name : ByteArray} {i : Nat} (hg : kvGet D.folder name = some i) : (D.flAt i).data.size + kvSum (fun i => (D.flAt i).data.size) (kvDel D.folder name) = D.used := (kvSum_del (fun i => (D.flAt i).data.size) h.fap (kvGet_mem hg)).symm

def nmB (k : Nat) : ByteArray := strL [UInt8.ofNat (97 + k)]
theorem nmB_ok : ∀ k, k < 30 → dkName (nmB k) = true := by decide +kernel
theorem nmB_ne : ∀ k, k < 30 → ∀ j, j < k → nmB j ≠ nmB k := by decide +kernel
theorem one_byte (w : World) (k : Nat) (hk : k < 30) :
    (convert 61 9 (.slice (some ⟨w.heap.size, 0, none⟩) 1 1)).run Try.prog (w.alloc (.cells #[.int .u8 (97 + (k : Int))] 5)) = .ok (.string (nmB k)) (w.alloc (.cells #[.int .u8 (97 + (k : Int))] 5)) := by
  refine run_convert_own 61 9 5 Try.underlying61 Try.underlying5 Try.underlying9 (base := w.heap.size) (n := 1) (l := [UInt8.ofNat (97 + k)]) ?_
  have h := World.ownsRow_lit (base := w.heap.size) (size := 1) (e := 5) w #[.int .u8 (97 + (k : Int))] 1 (Nat.le_refl _) (by decide) rfl
  have e : bytesV [UInt8.ofNat (97 + k)] = (#[Value.int .u8 (97 + (k : Int))] : Array Value).toList := by
    have : (UInt8.ofNat (97 + k)).toNat = 97 + k := by rw [UInt8.toNat_ofNat']; omega
    simp [bytesV]
    omega
  rw [e]; exact h

/-- the disk behind i rounds -/
structure RoomI (room i u : Nat) (D : Dk) : Prop where
  arm : D.arm = -1
  dead : D.dead = false
  room : D.room = room
  used : D.used = u
  names : ∀ p ∈ D.folder, ∃ j, j < i ∧ p.1 = nmB j
  fl : D.files.length ≤ i
  st : D.steps.length ≤ 2 * i
theorem RoomI.small {room i u : Nat} {D : Dk} (h : RoomI room i u D) (hi : i ≤ 30) : D.small 400000 := ⟨by have := h.fl; omega, by have := h.st; omega⟩
theorem alive_same {D : Dk} (h1 : D.arm = -1) (h2 : D.dead = false) : D.alive = D := by
  cases D
  simp only at h1 h2
  subst h1 h2
  rfl
theorem RoomI.next {room i u : Nat} {D : Dk} (h : RoomI room i u D) : RoomI room (i + 1) u D :=
  ⟨h.arm, h.dead, h.room, h.used, fun p hp => by obtain ⟨j, hj, e⟩ := h.names p hp; exact ⟨j, by omega, e⟩, by have := h.fl; omega, by have := h.st; omega⟩
theorem RoomI.free {room i u : Nat} {D : Dk} (h : RoomI room i u D) (hi : i < 30) : kvGet D.folder (nmB i) = none :=
  kvGet_none_of fun p hp => by obtain ⟨j, hj, e⟩ := h.names p hp; rw [e]; exact nmB_ne i hi j hj
theorem room_no {room i u n : Nat} {D : Dk} (h : RoomI room i u D) (hi : i < 30) (hn : ¬ u + n ≤ room) : D.append (nmB i) (zeroB n) = (D, 9) := by
  unfold Dk.append
  rw [alive_same h.arm h.dead, h.dead, if_neg (by simp), nmB_ok i hi, if_neg (by simp), h.room, h.used, zeroB_size, if_pos (by omega)]
theorem room_yes {room i u n : Nat} {D : Dk} (h : RoomI room i u D) (hok : DkOk D) (hi : i < 30) (hn : u + n ≤ room) : D.append (nmB i) (zeroB n) = (D.put (nmB i) (zeroB n), 0) ∧ RoomI room (i + 1) (u + n) (D.put (nmB i) (zeroB n)) ∧
    (D.put (nmB i) (zeroB n)).remove (nmB i) = ({ D.put (nmB i) (zeroB n) with folder := kvDel (D.put (nmB i) (zeroB n)).folder (nmB i), steps := (D.put (nmB i) (zeroB n)).steps ++ [⟨3, nmB i, nmB i, D.files.length⟩] }, 0) := by
  have hg := h.free hi
  have hu := used_put hok hg (zeroB n)
  rw [zeroB_size, h.used] at hu
  have hput : D.put (nmB i) (zeroB n) = { D with files := D.files ++ [⟨zeroB n, 0⟩], folder := kvPut D.folder (nmB i) D.files.length, steps := D.steps ++ [⟨1, nmB i, nmB i, D.files.length⟩] } := by
    unfold Dk.put; rw [hg]
  refine ⟨?_, ⟨?_, ?_, ?_, hu, ?_, ?_, ?_⟩, ?_⟩
  · unfold Dk.append
    rw [alive_same h.arm h.dead, h.dead, if_neg (by simp), nmB_ok i hi, if_neg (by simp), h.room, h.used, zeroB_size, if_neg (by omega)]
  · rw [hput]; exact h.arm
  · rw [hput]; exact h.dead
  · rw [hput]; exact h.room
  · rw [hput]
    intro p hp
    rcases kvPut_mem hp with rfl | hp
    · exact ⟨i, by omega, rfl⟩
    · obtain ⟨j, hj, e⟩ := h.names p hp; exact ⟨j, by omega, e⟩
  · rw [hput]; simp; exact h.fl
  · rw [hput]; simp; have := h.st; omega
  · have hd : (D.put (nmB i) (zeroB n)).alive = D.put (nmB i) (zeroB n) := alive_same (by rw [hput]; exact h.arm) (by rw [hput]; exact h.dead)
    have hgg : kvGet (D.put (nmB i) (zeroB n)).folder (nmB i) = some D.files.length := by
      rw [hput]; exact kvGet_of_mem (kvApart_put _ _ hok.fap) ((kvPut_perm _ _ _).mem_iff.2 (by simp))
    unfold Dk.remove
    rw [hd, if_neg (by rw [hput]; simp [h.dead]), hgg]
theorem room_rem {room i u n : Nat} {D : Dk} (h : RoomI room i u D) (hok : DkOk D) (hi : i < 30) (hn : u + n ≤ room) : RoomI room (i + 1) u ({ D.put (nmB i) (zeroB n) with folder := kvDel (D.put (nmB i) (zeroB n)).folder (nmB i), steps := (D.put (nmB i) (zeroB n)).steps ++ [⟨3, nmB i, nmB i, D.files.length⟩] }) := by
  have hg := h.free hi
  have hput : D.put (nmB i) (zeroB n) = { D with files := D.files ++ [⟨zeroB n, 0⟩], folder := kvPut D.folder (nmB i) D.files.length, steps := D.steps ++ [⟨1, nmB i, nmB i, D.files.length⟩] } := by
    unfold Dk.put; rw [hg]
  obtain ⟨_, hr, _⟩ := room_yes h hok hi hn
  refine ⟨hr.arm, hr.dead, hr.room, ?_, fun p hp => hr.names p (kvDel_mem hp), hr.fl, ?_⟩
  · have hdel : kvDel (D.put (nmB i) (zeroB n)).folder (nmB i) = kvDel D.folder (nmB i) ∨ True := Or.inr trivial
    have hu := used_put hok hg (zeroB n)
    have hgg : kvGet (D.put (nmB i) (zeroB n)).folder (nmB i) = some D.files.length := by
      rw [hput]; exact kvGet_of_mem (kvApart_put _ _ hok.fap) ((kvPut_perm _ _ _).mem_iff.2 (by simp))
    have hap : kvApart (D.put (nmB i) (zeroB n)).folder := by rw [hput]; exact kvApart_put _ _ hok.fap
    have hs := kvSum_del (fun j => ((D.put (nmB i) (zeroB n)).flAt j).data.size) hap (kvGet_mem hgg)
    have hz : ((D.put (nmB i) (zeroB n)).flAt D.files.length).data.size = n := by
      rw [hput]; simp [Dk.flAt, List.getD, zeroB_size]
    have h2 : (D.put (nmB i) (zeroB n)).used = kvSum (fun j => ((D.put (nmB i) (zeroB n)).flAt j).data.size) (D.put (nmB i) (zeroB n)).folder := rfl
    show kvSum (fun j => ((D.put (nmB i) (zeroB n)).flAt j).data.size) (kvDel (D.put (nmB i) (zeroB n)).folder (nmB i)) = u
    rw [zeroB_size, h.used] at hu
    omega
  · rw [hput]; simp; have := h.st; omega
end Go.Proofs.Ytjdkhainlcalbaa
