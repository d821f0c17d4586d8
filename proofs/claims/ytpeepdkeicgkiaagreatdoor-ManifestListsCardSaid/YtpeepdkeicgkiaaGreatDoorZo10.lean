/- The library's slices.Sorted(maps.Keys(m)) at this seat: laid by the kit's lay-iter.mjs and lay-plain.mjs. The keys of a map with string keys, sorted. A crash, plainly. A crash: laws that its walk needs. The disk's list of names. -/
import Derived.Shelf.SlIter.Nil
import Derived.Shelf.SortM.Plain
import Derived.Shelf.SortM.SortNone
import Derived.Ground.GgzProg
import Derived.Ground.SlgmProg
import Derived.Test.YtpeepdkeicgkiaaGreatDoorChecked
import Derived.Test.YtpeepdkeicgkiaaGreatDoorZo9
import Derived.LaidEqlPtr
namespace Go.Proofs.YtpeepdkeicgkiaaGreatDoor
set_option linter.unusedVariables false
set_option linter.unusedSimpArgs false
set_option linter.unusedSectionVars false
open Go.Shelf
def Tryz.keys51_ren : Go.Shelf.Ren := ⟨fun | 7 => 51 | 10 => 90 | n => n, fun | 23 => 69 | 26 => 9 | 3 => 91 | 28 => 98 | 0 => 0 | 27 => 97 | 33 => 67 | 4 => 4 | n => n, fun | n => n⟩
theorem Tryz.keys51 : Go.Proofs.SlLaysZ.n7 Tryz.prog Tryz.keys51_ren := {
  mixed := by kernel_rfl
  f7 := ⟨Tryz.f51.name, by decide, Tryz.func51.trans (congrArg some (by kernel_rfl))⟩
  f10 := ⟨Tryz.f90.name, by decide, Tryz.func90.trans (congrArg some (by kernel_rfl))⟩
  t0 := Tryz.underlying0
  a0 := Tryz.isAgg0
  z0 := Tryz.sizeOf0
  v0 := Tryz.zeroValue0
  t4 := Tryz.underlying4
  a4 := Tryz.isAgg4
  z4 := Tryz.sizeOf4
  v4 := Tryz.zeroValue4
  t23 := Tryz.underlying69
  a23 := Tryz.isAgg69
  z23 := Tryz.sizeOf69
  v23 := Tryz.zeroValue69
  t26 := Tryz.underlying9
  a26 := Tryz.isAgg9
  z26 := Tryz.sizeOf9
  v26 := Tryz.zeroValue9
  t27 := Tryz.underlying97
  a27 := Tryz.isAgg97
  z27 := Tryz.sizeOf97
  v27 := Tryz.zeroValue97
  t28 := Tryz.underlying98
  a28 := Tryz.isAgg98
  z28 := Tryz.sizeOf98
  v28 := Tryz.zeroValue98
  t33 := Tryz.underlying67
  a33 := Tryz.isAgg67
  z33 := Tryz.sizeOf67
  v33 := Tryz.zeroValue67 }
def Tryz.sorted50_ren : Go.Shelf.Ren := ⟨fun | 6 => 50 | 8 => 88 | 9 => 89 | 11 => 116 | 13 => 69 | 12 => 117 | 23 => 107 | 24 => 108 | 14 => 132 | 15 => 133 | 16 => 134 | 17 => 135 | 18 => 136 | 19 => 137 | 20 => 138 | 21 => 139 | 22 => 140 | 25 => 145 | 26 => 122 | 27 => 123 | 28 => 146 | 29 => 147 | 30 => 148 | 31 => 149 | n => n, fun | 26 => 9 | 28 => 98 | 24 => 30 | 0 => 0 | 3 => 3 | 37 => 113 | 48 => 148 | 50 => 86 | 4 => 4 | 40 => 156 | 39 => 155 | 45 => 160 | 5 => 5 | 9 => 9 | 51 => 172 | 55 => 176 | 57 => 192 | 58 => 143 | 33 => 67 | n => n, fun | n => n⟩
theorem Tryz.sorted50 : Go.Proofs.SlLaysZ.n6 Tryz.prog Tryz.sorted50_ren := {
  mixed := by kernel_rfl
  f6 := ⟨Tryz.f50.name, by decide, Tryz.func50.trans (congrArg some (by kernel_rfl))⟩
  f8 := ⟨Tryz.f88.name, by decide, Tryz.func88.trans (congrArg some (by kernel_rfl))⟩
  f11 := ⟨Tryz.f116.name, by decide, Tryz.func116.trans (congrArg some (by kernel_rfl))⟩
  t0 := Tryz.underlying0
  a0 := Tryz.isAgg0
  z0 := Tryz.sizeOf0
  v0 := Tryz.zeroValue0
  t24 := Tryz.underlying30
  a24 := Tryz.isAgg30
  z24 := Tryz.sizeOf30
  v24 := Tryz.zeroValue30
  t26 := Tryz.underlying9
  a26 := Tryz.isAgg9
  z26 := Tryz.sizeOf9
  v26 := Tryz.zeroValue9
  t28 := Tryz.underlying98
  a28 := Tryz.isAgg98
  z28 := Tryz.sizeOf98
  v28 := Tryz.zeroValue98
  i26 := by kernel_rfl }
def Tryz.sort89_ren : Go.Shelf.Ren := ⟨fun | 6 => 89 | 8 => 69 | 9 => 117 | 19 => 107 | 20 => 108 | 21 => 132 | 22 => 133 | 23 => 134 | 24 => 135 | 25 => 136 | 26 => 137 | 27 => 138 | 28 => 139 | 29 => 140 | 36 => 145 | 31 => 122 | 32 => 123 | 37 => 146 | 38 => 147 | 39 => 148 | 41 => 149 | n => n, fun | 27 => 30 | 29 => 9 | 3 => 3 | 32 => 113 | 26 => 30 | 0 => 0 | 44 => 148 | 46 => 86 | 4 => 4 | 36 => 156 | 35 => 155 | 41 => 160 | 5 => 5 | 9 => 9 | 53 => 172 | 57 => 176 | 63 => 192 | 64 => 143 | n => n, fun | n => n⟩
theorem Tryz.sort89 : Go.Proofs.SlLaysM.n6 Tryz.prog Tryz.sort89_ren := {
  mixed := by kernel_rfl
  f6 := ⟨Tryz.f89.name, by decide, Tryz.func89.trans (congrArg some (by kernel_rfl))⟩
  f8 := Tryz.func69.trans (congrArg some (by kernel_rfl))
  f9 := ⟨Tryz.f117.name, by decide, Tryz.func117.trans (congrArg some (by kernel_rfl))⟩
  f19 := Tryz.func107.trans (congrArg some (by kernel_rfl))
  f20 := Tryz.func108.trans (congrArg some (by kernel_rfl))
  f21 := ⟨Tryz.f132.name, by decide, Tryz.func132.trans (congrArg some (by kernel_rfl))⟩
  f22 := ⟨Tryz.f133.name, by decide, Tryz.func133.trans (congrArg some (by kernel_rfl))⟩
  f23 := ⟨Tryz.f134.name, by decide, Tryz.func134.trans (congrArg some (by kernel_rfl))⟩
  f24 := ⟨Tryz.f135.name, by decide, Tryz.func135.trans (congrArg some (by kernel_rfl))⟩
  f25 := ⟨Tryz.f136.name, by decide, Tryz.func136.trans (congrArg some (by kernel_rfl))⟩
  f26 := ⟨Tryz.f137.name, by decide, Tryz.func137.trans (congrArg some (by kernel_rfl))⟩
  f27 := ⟨Tryz.f138.name, by decide, Tryz.func138.trans (congrArg some (by kernel_rfl))⟩
  f28 := ⟨Tryz.f139.name, by decide, Tryz.func139.trans (congrArg some (by kernel_rfl))⟩
  f29 := ⟨Tryz.f140.name, by decide, Tryz.func140.trans (congrArg some (by kernel_rfl))⟩
  f31 := Tryz.func122.trans (congrArg some (by kernel_rfl))
  f32 := Tryz.func123.trans (congrArg some (by kernel_rfl))
  f36 := ⟨Tryz.f145.name, by decide, Tryz.func145.trans (congrArg some (by kernel_rfl))⟩
  f37 := ⟨Tryz.f146.name, by decide, Tryz.func146.trans (congrArg some (by kernel_rfl))⟩
  f38 := ⟨Tryz.f147.name, by decide, Tryz.func147.trans (congrArg some (by kernel_rfl))⟩
  f39 := ⟨Tryz.f148.name, by decide, Tryz.func148.trans (congrArg some (by kernel_rfl))⟩
  f41 := ⟨Tryz.f149.name, by decide, Tryz.func149.trans (congrArg some (by kernel_rfl))⟩
  t0 := Tryz.underlying0
  a0 := Tryz.isAgg0
  z0 := Tryz.sizeOf0
  v0 := Tryz.zeroValue0
  t3 := Tryz.underlying3
  a3 := Tryz.isAgg3
  z3 := Tryz.sizeOf3
  v3 := Tryz.zeroValue3
  t4 := Tryz.underlying4
  a4 := Tryz.isAgg4
  z4 := Tryz.sizeOf4
  v4 := Tryz.zeroValue4
  t5 := Tryz.underlying5
  a5 := Tryz.isAgg5
  z5 := Tryz.sizeOf5
  v5 := Tryz.zeroValue5
  t9 := Tryz.underlying9
  a9 := Tryz.isAgg9
  z9 := Tryz.sizeOf9
  v9 := Tryz.zeroValue9
  t26 := Tryz.underlying30
  a26 := Tryz.isAgg30
  z26 := Tryz.sizeOf30
  v26 := Tryz.zeroValue30
  t27 := Tryz.underlying30
  a27 := Tryz.isAgg30
  z27 := Tryz.sizeOf30
  v27 := Tryz.zeroValue30
  t29 := Tryz.underlying9
  a29 := Tryz.isAgg9
  z29 := Tryz.sizeOf9
  v29 := Tryz.zeroValue9
  t32 := Tryz.underlying113
  a32 := Tryz.isAgg113
  z32 := Tryz.sizeOf113
  v32 := Tryz.zeroValue113
  t35 := Tryz.underlying155
  a35 := Tryz.isAgg155
  z35 := Tryz.sizeOf155
  v35 := Tryz.zeroValue155
  t36 := Tryz.underlying156
  a36 := Tryz.isAgg156
  z36 := Tryz.sizeOf156
  v36 := Tryz.zeroValue156
  t41 := Tryz.underlying160
  a41 := Tryz.isAgg160
  z41 := Tryz.sizeOf160
  v41 := Tryz.zeroValue160
  t44 := Tryz.underlying148
  a44 := Tryz.isAgg148
  z44 := Tryz.sizeOf148
  v44 := Tryz.zeroValue148
  t46 := Tryz.underlying86
  a46 := Tryz.isAgg86
  z46 := Tryz.sizeOf86
  v46 := Tryz.zeroValue86
  t53 := Tryz.underlying172
  a53 := Tryz.isAgg172
  z53 := Tryz.sizeOf172
  v53 := Tryz.zeroValue172
  t57 := Tryz.underlying176
  a57 := Tryz.isAgg176
  z57 := Tryz.sizeOf176
  v57 := Tryz.zeroValue176
  t63 := Tryz.underlying192
  a63 := Tryz.isAgg192
  z63 := Tryz.sizeOf192
  v63 := Tryz.zeroValue192
  t64 := Tryz.underlying143
  a64 := Tryz.isAgg143
  z64 := Tryz.sizeOf143
  v64 := Tryz.zeroValue143 }
open Go.RowKit Go.Maps Go.Sort Go.Shelf


/-- slices.Sort's two contracts at this dump, at the fence that asks nothing. -/
theorem Tryz.sorts50 (m : Nat) : AnyZ.SortsIn Tryz.prog Tryz.sorted50_ren Fence.wide m :=
  ⟨fun blk off cap ss W hH hblk hsz => callsIn_wide.2 (AnyM.slices_Sort_string Tryz.sort89 blk off cap ss W hH hblk hsz),
   fun p cap W => callsIn_wide.2 (AnyM.slices_Sort_string_none Tryz.sort89 p cap W)⟩

/-- **maps.Keys[map[string]*cellarer/disk.file,string,*cellarer/disk.file], at whatever map, the nil one too:** a function value over ONE NEW BLOCK, which holds the map. -/
theorem Tryz.maps_Keys_51 (mb : Option Nat) (W : World) : CallsIn Fence.wide 5 Tryz.prog 51 #[.map mb] W fun e w' => e = .returned (.func (.func 90) #[] #[.pointer (some ⟨W.heap.size, 0, none⟩)]) ∧ w' = W.alloc (.cells #[.map mb] 69) :=
  AnyZ.keys_in Tryz.keys51 Fence.wide 5 trivial rfl mb W

set_option maxHeartbeats 1000000 in
/-- **slices.Sorted[string] AT WHAT maps.Keys[map[string]*cellarer/disk.file,string,*cellarer/disk.file] HANDED BACK FOR A MAP THAT IS NOT nil** ('w': the world AHEAD of maps.Keys' call): A NEW SLICE THAT HOLDS THE MAP's KEYS, SORTED; nil just where it has none; nothing that lay before has turned. -/
theorem Tryz.slices_Sorted_keys_50_51 {H : Type} (b nn : Nat) (D0 : DataW H) (R : Value → Option (DataW H × List MemPlace)) (w : World) (hown : w.ownsMap Tryz.prog 9 R b nn D0) (hmax : Maps.size D0 ≤ maxLen) (hbytes : Maps.size D0 * 16 ≤ 140737488355328) :
    CallsIn Fence.wide 5 Tryz.prog 50 #[.func (.func 90) #[] #[.pointer (some ⟨w.heap.size, 0, none⟩)]] (w.alloc (.cells #[.map (some b)] 69)) fun e w' => ∃ (v : Value) (ss : List (List UInt8)), e = .returned v ∧ ss.Perm (strKeys D0) ∧
      w'.ownsRow (w.alloc (.cells #[.map (some b)] 69)).heap.size 9 1 v ss.length ((ss.mergeSort (fun x y => decide (x ≤ y))).map encStr) ∧ (v = .slice none 0 0 ↔ ss = []) ∧ Below (w.alloc (.cells #[.map (some b)] 69)).heap.size (w.alloc (.cells #[.map (some b)] 69)) w' := by
  have hbl := hown.lt
  have hseq : SeqGives Fence.wide 2 Tryz.prog 90 #[.pointer (some ⟨w.heap.size, 0, none⟩)] encStr (fun ss => ss.Perm (strKeys D0)) (Maps.size D0) (w.alloc (.cells #[.map (some b)] 69)) :=
    AnyZ.keys_gives (ρ := Tryz.keys51_ren) { Tryz.keys51 with } Fence.wide _ trivial rfl (by omega) w.heap.size b nn D0 _ (by simp) (by simp) (by
      obtain ⟨es, clock, hb, Ft, hs, hD⟩ := hown
      exact ⟨es, clock, (Below.heap_alloc _ _ b hbl).trans hb, Ft, hs, hD⟩)
  exact AnyZ.sorted_in Tryz.sorted50 Fence.wide 5 trivial trivial trivial trivial rfl (by omega) (Tryz.sorts50 _) (enters_of Tryz.func89 (by kernel_rfl) rfl) 90 #[.pointer (some ⟨w.heap.size, 0, none⟩)] trivial (enters_of Tryz.func90 (by kernel_rfl) rfl) _ _ hmax hbytes _ hseq

set_option maxHeartbeats 1000000 in
/-- **.. AND FOR THE nil MAP: nil.** -/
theorem Tryz.slices_Sorted_keys_nil_50_51 (w : World) :
    CallsIn Fence.wide 5 Tryz.prog 50 #[.func (.func 90) #[] #[.pointer (some ⟨w.heap.size, 0, none⟩)]] (w.alloc (.cells #[.map none] 69)) fun e w' => ∃ (v : Value) (ss : List (List UInt8)), e = .returned v ∧ ss = [] ∧
      w'.ownsRow (w.alloc (.cells #[.map none] 69)).heap.size 9 1 v ss.length ((ss.mergeSort (fun x y => decide (x ≤ y))).map encStr) ∧ (v = .slice none 0 0 ↔ ss = []) ∧ Below (w.alloc (.cells #[.map none] 69)).heap.size (w.alloc (.cells #[.map none] 69)) w' := by
  have hseq : SeqGives Fence.wide 2 Tryz.prog 90 #[.pointer (some ⟨w.heap.size, 0, none⟩)] encStr (fun ss : List (List UInt8) => ss = []) 0 (w.alloc (.cells #[.map none] 69)) :=
    AnyZ.keys_gives_nil (ρ := Tryz.keys51_ren) { Tryz.keys51 with } Fence.wide _ trivial rfl w.heap.size _ (by simp) (by simp)
  exact AnyZ.sorted_in Tryz.sorted50 Fence.wide 5 trivial trivial trivial trivial rfl (by omega) (Tryz.sorts50 _) (enters_of Tryz.func89 (by kernel_rfl) rfl) 90 #[.pointer (some ⟨w.heap.size, 0, none⟩)] trivial (enters_of Tryz.func90 (by kernel_rfl) rfl) _ 0 (Nat.zero_le _) (by omega) _ hseq




end Go.Proofs.YtpeepdkeicgkiaaGreatDoor
namespace Go.Proofs.YtpeepdkeicgkiaaGreatDoor
set_option linter.unusedVariables false
set_option linter.unusedSimpArgs false
set_option linter.unusedSectionVars false
open Go.RowKit Go.Maps Go.Sort Go.Shelf

/-- the names, rising -/
def kvSort (ks : List (List UInt8)) : List (List UInt8) := ks.mergeSort (fun x y => decide (x ≤ y))
def kvNames {α : Type} (l : List (ByteArray × α)) : List ByteArray := (kvSort (l.map (·.1.data.toList))).map strM
  where strM (l : List UInt8) : ByteArray := ⟨l.toArray⟩
theorem kvNames_map {α β : Type} (f : α → β) (l : List (ByteArray × α)) : kvNames (kvMap f l) = kvNames l := by
  unfold kvNames kvMap; rw [List.map_map]; rfl
theorem kvSort_len (ks : List (List UInt8)) : (kvSort ks).length = ks.length := (List.mergeSort_perm ks _).length_eq
theorem kvNames_len {α : Type} (l : List (ByteArray × α)) : (kvNames l).length = l.length := by
  unfold kvNames; rw [List.length_map, kvSort_len, List.length_map]
theorem kvSort_perm {a b : List (List UInt8)} (h : a.Perm b) : kvSort a = kvSort b := by
  have ht : ∀ x y z : List UInt8, decide (x ≤ y) = true → decide (y ≤ z) = true → decide (x ≤ z) = true := by
    intro x y z h1 h2; simp only [decide_eq_true_eq] at *; exact List.le_trans h1 h2
  have hto : ∀ x y : List UInt8, (decide (x ≤ y) || decide (y ≤ x)) = true := by
    intro x y; simp only [Bool.or_eq_true, decide_eq_true_eq]; exact List.le_total x y
  have hp : (kvSort a).Perm (kvSort b) := ((List.mergeSort_perm a _).trans h).trans (List.mergeSort_perm b _).symm
  refine List.Perm.eq_of_pairwise (le := fun x y => decide (x ≤ y) = true) ?_ (List.pairwise_mergeSort ht hto a) (List.pairwise_mergeSort ht hto b) hp
  intro x y _ _ h1 h2
  simp only [decide_eq_true_eq] at h1 h2
  exact List.le_antisymm h1 h2

theorem strKeys_toD (l : List (ByteArray × Value)) : strKeys (toD l) = l.map (·.1.data.toList) := by
  simp [toD, strKeys]
  intro a b _; rfl

theorem keys_any (b : Nat) (w : World) : Calls Tryz.prog 51 #[.map (some b)] w fun e w' =>
    e = .returned (.func (.func 90) #[] #[.pointer (some ⟨w.heap.size, 0, none⟩)]) ∧ w' = w.alloc (.cells #[.map (some b)] 69) :=
  callsIn_wide.1 (Tryz.maps_Keys_51 (some b) w)

theorem sorted_any (b : Nat) (l : List (ByteArray × Value)) (w : World) (hown : ownsKV w Tryz.prog 9 b l) (hl : l.length ≤ 1000000) :
    Calls Tryz.prog 50 #[.func (.func 90) #[] #[.pointer (some ⟨w.heap.size, 0, none⟩)]] (w.alloc (.cells #[.map (some b)] 69)) fun e w' =>
      ∃ v, e = .returned v ∧ w'.ownsRow w.heap.size 9 1 v (kvNames l).length ((kvNames l).map .string) ∧ Below w.heap.size (w.alloc (.cells #[.map (some b)] 69)) w' := by
  have hs : Maps.size (toD l) = l.length := by simp [toD, Maps.size]
  refine (callsIn_wide.1 (Tryz.slices_Sorted_keys_50_51 b l.length (toD l) heldR w hown (by rw [hs]; unfold maxLen; omega) (by rw [hs]; omega))).mono ?_
  rintro e w' ⟨v, ss, rfl, hp, ho, _, hb⟩
  refine ⟨v, rfl, ?_, hb.mono (by simp)⟩
  rw [strKeys_toD] at hp
  have h1 : ss.length = (kvNames l).length := by rw [kvNames_len, hp.length_eq, List.length_map]
  have h2 : (ss.mergeSort (fun x y => decide (x ≤ y))).map encStr = (kvNames l).map .string := by
    unfold kvNames; rw [List.map_map, ← kvSort_perm hp]; rfl
  rw [h1, h2] at ho
  obtain ⟨q1, q2⟩ := ho
  refine ⟨q1, q2.imp id ?_⟩
  rintro ⟨g, cap, cur, r1, r2, r3⟩
  exact ⟨g, cap, cur, r1, by simp at r2; omega, r3⟩
end Go.Proofs.YtpeepdkeicgkiaaGreatDoor
namespace Go.Proofs.YtpeepdkeicgkiaaGreatDoor
set_option linter.unusedVariables false
set_option linter.unusedSimpArgs false
set_option linter.unusedSectionVars false
open Go.RowKit Go.Maps

/-- a step is kept or passed over -/
def leftStep (ks : List Int) (left : List (ByteArray × Nat)) (i : Nat) (s : Sp) : List (ByteArray × Nat) :=
  if sayI ks i % 2 = 0 then left else
  if s.kind = 1 ∧ kvGet left s.src = none then kvPut left s.src s.id else
  if s.kind = 2 ∧ kvGet left s.src = some s.id then kvPut (kvDel left s.src) s.dst s.id else
  if s.kind = 3 ∧ kvGet left s.src = some s.id then kvDel left s.src else left
/-- behind so many steps -/
def Dk.leftAt (D : Dk) (ks : List Int) : Nat → List (ByteArray × Nat)
  | 0 => D.sure
  | k + 1 => match D.steps[k]? with
    | none => D.leftAt ks k
    | some s => leftStep ks (D.leftAt ks k) k s
def Dk.left (D : Dk) (ks : List Int) : List (ByteArray × Nat) := D.leftAt ks D.steps.length
/-- how much of a file is left, that has the place i among the names -/
def Dk.keepN (D : Dk) (ks : List Int) (i id : Nat) : Nat :=
  (D.flAt id).safe + (sayI ks (D.steps.length + i) % (((D.flAt id).data.size - (D.flAt id).safe + 1 : Nat) : Int)).toNat
def Dk.leftFile (D : Dk) (ks : List Int) (i : Nat) (name : ByteArray) : Fl :=
  let id := (kvGet (D.left ks) name).getD 0
  ⟨(D.flAt id).data.extract 0 (D.keepN ks i id), D.keepN ks i id⟩
def Dk.leftNames (D : Dk) (ks : List Int) : List ByteArray := kvNames (D.left ks)
/-- the first k files that are left, and their folder -/
def Dk.newFiles (D : Dk) (ks : List Int) (k : Nat) : List Fl := (List.range k).map fun i => D.leftFile ks i ((D.leftNames ks).getD i ByteArray.empty)
def Dk.newFolder (D : Dk) (ks : List Int) : Nat → List (ByteArray × Nat)
  | 0 => []
  | k + 1 => kvPut (D.newFolder ks k) ((D.leftNames ks).getD k ByteArray.empty) k
def Dk.crash (D : Dk) (ks : List Int) : Dk :=
  { room := D.room, files := D.newFiles ks (D.leftNames ks).length, folder := D.newFolder ks (D.leftNames ks).length, sure := D.newFolder ks (D.leftNames ks).length, steps := [], arm := -1, dead := false }

/-- what holds of what is left -/
structure LeftOk (D : Dk) (l : List (ByteArray × Nat)) : Prop where
  ids : ∀ p ∈ l, p.2 < D.files.length
  nam : ∀ p ∈ l, p.1.size ≤ 80
  apart : kvApart l
theorem LeftOk.put {D : Dk} {l : List (ByteArray × Nat)} (h : LeftOk D l) (k : ByteArray) (v : Nat) (hk : k.size ≤ 80) (hv : v < D.files.length) : LeftOk D (kvPut l k v) where
  ids := fun p hp => (kvPut_mem hp).elim (fun e => by rw [e]; exact hv) (h.ids p)
  nam := fun p hp => (kvPut_mem hp).elim (fun e => by rw [e]; exact hk) (h.nam p)
  apart := kvApart_put k v h.apart
theorem LeftOk.del {D : Dk} {l : List (ByteArray × Nat)} (h : LeftOk D l) (k : ByteArray) : LeftOk D (kvDel l k) where
  ids := fun p hp => h.ids p (kvDel_mem hp)
  nam := fun p hp => h.nam p (kvDel_mem hp)
  apart := kvApart_del k h.apart
theorem LeftOk.step {D : Dk} {l : List (ByteArray × Nat)} (h : LeftOk D l) (ks : List Int) (i : Nat) (s : Sp) (hs : s.id < D.files.length ∧ s.src.size ≤ 80 ∧ s.dst.size ≤ 80) : LeftOk D (leftStep ks l i s) := by
  unfold leftStep
  split
  · exact h
  · split
    · exact h.put _ _ hs.2.1 hs.1
    · split
      · exact (h.del _).put _ _ hs.2.2 hs.1
      · split
        · exact h.del _
        · exact h
theorem DkOk.leftAt {D : Dk} (h : DkOk D) (ks : List Int) (k : Nat) : LeftOk D (D.leftAt ks k) := by
  induction k with
  | zero => exact ⟨h.sur, h.snm, h.sap⟩
  | succ k ih =>
    unfold Dk.leftAt
    split
    · exact ih
    · next s hs => exact ih.step ks k s (h.stp s (List.mem_of_getElem? hs))
theorem leftStep_len (ks : List Int) (l : List (ByteArray × Nat)) (i : Nat) (s : Sp) : (leftStep ks l i s).length ≤ l.length + 1 := by
  unfold leftStep
  split
  · omega
  · split
    · exact kvPut_len _ _ _
    · split
      · exact Nat.le_trans (kvPut_len _ _ _) (Nat.succ_le_succ (kvDel_len _ _))
      · split
        · exact Nat.le_trans (kvDel_len _ _) (Nat.le_succ _)
        · omega
theorem Dk.leftAt_len (D : Dk) (ks : List Int) (k : Nat) : (D.leftAt ks k).length ≤ D.sure.length + k := by
  induction k with
  | zero => exact Nat.le_refl _
  | succ k ih =>
    unfold Dk.leftAt
    split
    · omega
    · exact Nat.le_trans (leftStep_len _ _ _ _) (by omega)
theorem Dk.leftAt_succ (D : Dk) (ks : List Int) (k : Nat) (h : k < D.steps.length) : D.leftAt ks (k + 1) = leftStep ks (D.leftAt ks k) k D.steps[k] := by
  show (match D.steps[k]? with | none => D.leftAt ks k | some s => leftStep ks (D.leftAt ks k) k s) = _
  rw [List.getElem?_eq_getElem h]
theorem Dk.newFolder_len (D : Dk) (ks : List Int) (k : Nat) : (D.newFolder ks k).length ≤ k := by
  induction k with
  | zero => exact Nat.le_refl _
  | succ k ih => exact Nat.le_trans (kvPut_len _ _ _) (by omega)
end Go.Proofs.YtpeepdkeicgkiaaGreatDoor
namespace Go.Proofs.YtpeepdkeicgkiaaGreatDoor
set_option linter.unusedVariables false
set_option linter.unusedSimpArgs false
set_option linter.unusedSectionVars false
open Go.RowKit Go.Maps

section
variable {P : Program} {w : World} {ops : Array Oper} {rest : List Oper} {o : Oper} {a : Act} {Q : Exit → Act → World → Prop}
/-- m[k] without ok, at a key that is there -/
theorem wpList_kvThere (hg : o.guard = none) (m x : Operand) (t : TypeId) (hop : o.op = Op.lookup t m x false)
    {k e : TypeId} (hk : P.underlying k = some .string) (ht : P.underlying t = some (.map k e)) {z : Value} (hz : (zeroValue e).run P w = .ok z w) {b : Nat} {l : List (ByteArray × Value)}
    (hm : a.eval m = .map (some b)) (hown : ownsKV w P k b l) {s : ByteArray} (hx : a.eval x = .string s) (hs : s.size ≤ maxLen) {v : Value} (hv : kvGet l s = some v)
    (hK : wpList P ops Q rest (a.put o.dst v) w) :
    wpList P ops Q (o :: rest) a w := by
  refine wpList_plain hg fun K' hK' => ?_
  obtain ⟨u, ps, hrun, hu⟩ := World.ownsMap.lookup hown (string_keyed hk) ht hz (R := heldR) (zd := .held z) (zp := []) rfl (WideMaps.keyOf_string_mk hk hs)
  rw [toD_at, hv] at hu
  simp [heldR] at hu
  obtain ⟨rfl, _⟩ := hu
  unfold Oper.wp
  simp [execOp, hop, hm, hx, hrun, Result.andThen]
  exact hK' _ _ hK
end

theorem flat4 {α : Type} (f : α → List Value) (hf : ∀ s, (f s).length = 4) (l : List α) (k j : Nat) (hk : k < l.length) (hj : j < 4) : (l.flatMap f)[k * 4 + j]? = (f l[k])[j]? := by
  induction l generalizing k with
  | nil => simp at hk
  | cons x r ih =>
    rw [List.flatMap_cons]
    cases k with
    | zero => rw [List.getElem?_append_left (by rw [hf]; omega)]; simp
    | succ k =>
      rw [List.getElem?_append_right (by rw [hf]; omega), hf, show (k + 1) * 4 + j - 4 = k * 4 + j by omega, ih k (by simpa using hk)]
      simp

/-- the cells of a step -/
theorem step_cell {w : World} {v : Value} {l : List Sp} {bs : List Nat} (h : w.ownsRow 0 93 4 v l.length (l.flatMap (stepCells bs))) {k : Nat} (hk : k < l.length) :
    ∃ g cap, v = .slice (some ⟨g, 0, none⟩) l.length cap ∧ g < w.heap.size ∧ ∀ j, j < 4 → w.cell? ⟨g, k * 4 + j, none⟩ = (stepCells bs l[k])[j]? := by
  rcases h.2 with ⟨_, h0⟩ | ⟨g, cap, cur, hv, _⟩
  · omega
  · subst hv
    refine ⟨g, cap, rfl, (ownsRow_lt h (k := g) rfl).2, fun j hj => ?_⟩
    have h4 := flat4 (stepCells bs) (fun s => rfl) l k j hk hj
    have hj' : j < (stepCells bs l[k]).length := hj
    rw [List.getElem?_eq_getElem hj'] at h4 ⊢
    have := World.ownsRow.cells h (g := g) rfl _ _ h4
    have hadd : (⟨g, 0, none⟩ : Addr).add (k * 4 + j) = ⟨g, 0 + (k * 4 + j), none⟩ := by unfold Addr.add; split <;> simp_all
    rw [hadd, Nat.zero_add] at this; exact this

/-- every name that is left has a file -/
theorem kvNames_mem {α : Type} {l : List (ByteArray × α)} {s : ByteArray} (h : s ∈ kvNames l) : ∃ v, (s, v) ∈ l := by
  unfold kvNames at h
  obtain ⟨x, hx, rfl⟩ := List.mem_map.1 h
  have h1 := (List.mergeSort_perm _ _).mem_iff.1 hx
  obtain ⟨p, hp, rfl⟩ := List.mem_map.1 h1
  refine ⟨p.2, ?_⟩
  have e : kvNames.strM p.1.data.toList = p.1 := ByteArray.ext (by simp [kvNames.strM])
  rw [e]; exact hp
theorem kvNames_get {l : List (ByteArray × Nat)} (ha : kvApart l) {k : Nat} (hk : k < (kvNames l).length) : ∃ i, ((kvNames l)[k], i) ∈ l ∧ kvGet l (kvNames l)[k] = some i := by
  obtain ⟨i, hi⟩ := kvNames_mem (List.getElem_mem hk)
  exact ⟨i, hi, kvGet_of_mem ha hi⟩
theorem kvNames_nodup {α : Type} {l : List (ByteArray × α)} (ha : kvApart l) : (kvNames l).Nodup := by
  unfold kvNames
  have h1 : (l.map (·.1.data.toList)).Nodup := by
    unfold List.Nodup
    rw [List.pairwise_map]
    exact ha.imp fun {p q} h e => h (ba_eq.1 e)
  have h2 : (kvSort (l.map (·.1.data.toList))).Nodup := (List.mergeSort_perm _ _).nodup_iff.2 h1
  unfold List.Nodup at h2 ⊢
  rw [List.pairwise_map]
  exact h2.imp fun {p q} h e => h (by simpa [kvNames.strM] using e)

section
variable {ks : List Int} {left : List (ByteArray × Nat)} {i : Nat} {kind : Int} {src dst : ByteArray} {id : Nat}
theorem leftStep_skip (s : Sp) (h : sayI ks i % 2 = 0) : leftStep ks left i s = left := by unfold leftStep; rw [if_pos h]
theorem leftStep_put (h : ¬ sayI ks i % 2 = 0) (hg : kvGet left src = none) : leftStep ks left i ⟨1, src, dst, id⟩ = kvPut left src id := by
  unfold leftStep; rw [if_neg h, if_pos ⟨rfl, hg⟩]
theorem leftStep_ren (h : ¬ sayI ks i % 2 = 0) (hg : kvGet left src = some id) : leftStep ks left i ⟨2, src, dst, id⟩ = kvPut (kvDel left src) dst id := by
  unfold leftStep; rw [if_neg h, if_neg (by simp), if_pos ⟨rfl, hg⟩]
theorem leftStep_del (h : ¬ sayI ks i % 2 = 0) (hg : kvGet left src = some id) : leftStep ks left i ⟨3, src, dst, id⟩ = kvDel left src := by
  unfold leftStep; rw [if_neg h, if_neg (by simp), if_neg (by simp), if_pos ⟨rfl, hg⟩]
theorem leftStep_none (hg : kvGet left src = none) (hk : kind ≠ 1) : leftStep ks left i ⟨kind, src, dst, id⟩ = left := by
  unfold leftStep; simp [hg, hk]
theorem leftStep_other {j : Nat} (hg : kvGet left src = some j) (hj : j ≠ id) : leftStep ks left i ⟨kind, src, dst, id⟩ = left := by
  unfold leftStep; simp [hg, hj]
theorem leftStep_kind {j : Nat} (hg : kvGet left src = some j) (h2 : kind ≠ 2) (h3 : kind ≠ 3) : leftStep ks left i ⟨kind, src, dst, id⟩ = left := by
  unfold leftStep; simp [hg, h2, h3]
end
theorem sayI_ok {ks : List Int} (h : ∀ x ∈ ks, -9223372036854775808 ≤ x ∧ x ≤ 9223372036854775807) (i : Nat) : -9223372036854775808 ≤ sayI ks i ∧ sayI ks i ≤ 9223372036854775807 := by
  unfold sayI
  split
  · omega
  · next h0 =>
    have hm : i % ks.length < ks.length := Nat.mod_lt _ (List.length_pos_iff.2 h0)
    rw [List.getD, List.getElem?_eq_getElem hm]
    exact h _ (List.getElem_mem hm)

theorem infoFile : ∃ j, Tryz.prog.info? 101 = some j ∧ j.size ≠ 0 := by
  have h : (Tryz.prog.info? 101).map (fun i => i.size) = some 2 := by kernel_rfl
  obtain ⟨j, hj, hs⟩ := Option.map_eq_some_iff.1 h
  exact ⟨j, hj, by omega⟩
theorem file_same (w : World) (c : Nat) : (binOp .eql 91 (.pointer (some ⟨c, 0, none⟩)) (.pointer (some ⟨c, 0, none⟩))).run Tryz.prog w = .ok (.bool true) w := by
  obtain ⟨j, hj, _⟩ := infoFile
  exact run_eql_ptr_same w ⟨c, 0, none⟩ Tryz.underlying91 hj
theorem file_other {w : World} {c d : Nat} {xs ys : Array Value} (hc : BlockIs w c xs 101) (hd : BlockIs w d ys 101) (h : c ≠ d) :
    (binOp .eql 91 (.pointer (some ⟨c, 0, none⟩)) (.pointer (some ⟨d, 0, none⟩))).run Tryz.prog w = .ok (.bool false) w := by
  obtain ⟨j, hj, hs⟩ := infoFile
  exact run_eql_ptr_other w Tryz.underlying91 hj hs (fun e => h (congrArg Addr.block e)) hc hd

/-- the file that has the place i among those that are left -/
def Dk.newFl (D : Dk) (ks : List Int) (i : Nat) : Fl := D.leftFile ks i ((D.leftNames ks).getD i ByteArray.empty)
theorem newFolder_ids (D : Dk) (ks : List Int) (k : Nat) : ∀ p ∈ D.newFolder ks k, p.2 < k := by
  induction k with
  | zero => intro p hp; simp [Dk.newFolder] at hp
  | succ k ih =>
    intro p hp
    rcases kvPut_mem hp with rfl | h
    · exact Nat.lt_succ_self _
    · exact Nat.lt_succ_of_lt (ih p h)
theorem newFolder_apart (D : Dk) (ks : List Int) (k : Nat) : kvApart (D.newFolder ks k) := by
  induction k with
  | zero => exact List.Pairwise.nil
  | succ k ih => exact kvApart_put _ _ ih
theorem getD_left {l : List Nat} {n i : Nat} (h : i < l.length) : (l ++ [n]).getD i 0 = l.getD i 0 := by
  simp [List.getD, List.getElem?_append_left h]
theorem getD_last (l : List Nat) (n : Nat) : (l ++ [n]).getD l.length 0 = n := by
  simp [List.getD]
/-- behind k of the files that are left: the new map, the new files -/
structure NewAt (w6 wr : World) (fm : Nat) (D : Dk) (ks : List Int) (k : Nat) (newbs : List Nat) : Prop where
  touch : Touch (· = fm) w6 wr
  len : newbs.length = k
  new : ∀ c ∈ newbs, w6.heap.size ≤ c
  nd : newbs.Nodup
  fs : ∀ i, i < k → BlockIs wr (newbs.getD i 0) (flCells (D.newFl ks i)) 101
  mp : ownsKV wr Tryz.prog 9 fm (kvMap (fileV newbs) (D.newFolder ks k))
theorem NewAt.lt {w6 wr : World} {fm : Nat} {D : Dk} {ks : List Int} {k : Nat} {newbs : List Nat} (h : NewAt w6 wr fm D ks k newbs) : ∀ c ∈ newbs, c < wr.heap.size := by
  intro c hc
  obtain ⟨i, hi, rfl⟩ := List.getElem_of_mem hc
  have := (h.fs i (by rw [← h.len]; exact hi)).lt
  simpa [List.getD, List.getElem?_eq_getElem hi] using this
theorem NewAt.step {w6 wr w' : World} {fm : Nat} {D : Dk} {ks : List Int} {k : Nat} {newbs : List Nat} (h : NewAt w6 wr fm D ks k newbs) (hfm : fm < w6.heap.size) {n0 : Nat} (hn : wr.heap.size ≤ n0) (ht : Touch (· = fm) wr w')
    (hb : BlockIs w' n0 (flCells (D.newFl ks k)) 101) (hm : ownsKV w' Tryz.prog 9 fm (kvPut (kvMap (fileV newbs) (D.newFolder ks k)) ((D.leftNames ks).getD k ByteArray.empty) (ptrV n0))) : NewAt w6 w' fm D ks (k + 1) (newbs ++ [n0]) where
  touch := h.touch.trans ht (fun _ _ h => h)
  len := by rw [List.length_append, h.len]; rfl
  new := by
    intro c hc
    rcases List.mem_append.1 hc with hc | hc
    · exact h.new c hc
    · rw [List.mem_singleton.1 hc]; exact Nat.le_trans h.touch.size hn
  nd := by
    refine List.nodup_append.2 ⟨h.nd, by simp, ?_⟩
    intro c hc d hd e
    have h1 := h.lt c hc
    rw [List.mem_singleton.1 hd] at e; omega
  fs := by
    intro i hi
    by_cases hk : i < k
    · rw [getD_left (by rw [h.len]; exact hk)]
      have h1 := h.fs i hk
      have h2 : newbs.getD i 0 ∈ newbs := getD_mem (by rw [h.len]; exact hk)
      exact h1.keep (ht.block _ h1.lt (by have := h.new _ h2; omega))
    · obtain rfl : i = k := by omega
      have e : (newbs ++ [n0]).getD i 0 = n0 := by rw [← h.len]; exact getD_last _ _
      rw [e]; exact hb
  mp := by
    show ownsKV w' _ _ fm (kvMap (fileV (newbs ++ [n0])) (kvPut (D.newFolder ks k) ((D.leftNames ks).getD k ByteArray.empty) k))
    rw [← kvPut_map, show fileV (newbs ++ [n0]) k = ptrV n0 by rw [← h.len]; exact fileV_new _ _,
      kvMap_congr (g := fileV newbs) (fun p hp => fileV_old (by rw [h.len]; exact newFolder_ids D ks k p hp))]
    exact hm

/-- an owned row of texts, to be read -/
theorem row_reads {w : World} {base : Nat} {e : TypeId} {v : Value} {l : List ByteArray} (h : w.ownsRow base e 1 v l.length (l.map .string)) :
    ∃ a c, v = .slice a l.length c ∧ ∀ i (hi : i < l.length), ∃ g, a = some ⟨g, 0, none⟩ ∧ base ≤ g ∧ g < w.heap.size ∧ w.cell? ⟨g, i, none⟩ = some (.string l[i]) := by
  rcases h.2 with ⟨hv, h0⟩ | ⟨g, cap, cur, hv, _⟩
  · exact ⟨none, 0, by rw [hv, h0], fun k hk => by omega⟩
  · subst hv
    refine ⟨_, _, rfl, fun i hi => ⟨g, rfl, (ownsRow_lt h (k := g) rfl).1, (ownsRow_lt h (k := g) rfl).2, ?_⟩⟩
    have := own_cell h (j := i) (u := .string l[i]) (by simp [List.getElem?_eq_getElem hi])
    have hadd : (⟨g, 0, none⟩ : Addr).add i = ⟨g, 0 + i, none⟩ := by unfold Addr.add; split <;> simp_all
    rw [hadd, Nat.zero_add] at this; exact this

theorem keepN_le {D : Dk} (h : DkOk D) (ks : List Int) (i id : Nat) : D.keepN ks i id ≤ (D.flAt id).data.size := by
  have hz := (flAt_le h id).2
  unfold Dk.keepN
  have h1 := Int.emod_lt_of_pos (sayI ks (D.steps.length + i)) (b := (((D.flAt id).data.size - (D.flAt id).safe + 1 : Nat) : Int)) (by omega)
  omega
theorem newFl_ok {D : Dk} (h : DkOk D) (ks : List Int) (i : Nat) : (D.newFl ks i).data.size ≤ 1073741824 ∧ (D.newFl ks i).safe ≤ (D.newFl ks i).data.size := by
  unfold Dk.newFl Dk.leftFile
  simp only [ByteArray.size_extract]
  generalize (kvGet (D.left ks) ((D.leftNames ks).getD i ByteArray.empty)).getD 0 = id
  have h1 := keepN_le h ks i id
  have h2 := (flAt_le h id).1
  omega
theorem leftNames_size {D : Dk} (h : DkOk D) (ks : List Int) (k : Nat) : ((D.leftNames ks).getD k ByteArray.empty).size ≤ 80 := by
  by_cases hk : k < (D.leftNames ks).length
  · rw [List.getD, List.getElem?_eq_getElem hk]
    obtain ⟨i, hi⟩ := kvNames_mem (l := D.left ks) (List.getElem_mem hk)
    exact (h.leftAt ks D.steps.length).nam _ hi
  · rw [List.getD, List.getElem?_eq_none (by omega)]; exact Nat.zero_le _
theorem newFolder_nam {D : Dk} (h : DkOk D) (ks : List Int) (k : Nat) : ∀ p ∈ D.newFolder ks k, p.1.size ≤ 80 := by
  induction k with
  | zero => intro p hp; simp [Dk.newFolder] at hp
  | succ k ih =>
    intro p hp
    rcases kvPut_mem hp with rfl | h1
    · exact leftNames_size h ks k
    · exact ih p h1
theorem crash_files (D : Dk) (ks : List Int) : (D.crash ks).files.length = (D.leftNames ks).length := by
  simp [Dk.crash, Dk.newFiles]
theorem crash_flAt (D : Dk) (ks : List Int) (i : Nat) (h : i < (D.leftNames ks).length) : (D.crash ks).flAt i = D.newFl ks i := by
  unfold Dk.flAt Dk.crash Dk.newFiles Dk.newFl
  simp [List.getD, h]
theorem DkOk.crash {D : Dk} (h : DkOk D) (ks : List Int) : DkOk (D.crash ks) where
  fol := fun p hp => by rw [crash_files]; exact newFolder_ids D ks _ p hp
  sur := fun p hp => by rw [crash_files]; exact newFolder_ids D ks _ p hp
  stp := fun s hs => by simp [Dk.crash] at hs
  fap := newFolder_apart D ks _
  sap := newFolder_apart D ks _
  fln := by rw [crash_files]; exact D.newFolder_len ks _
  sln := by rw [crash_files]; exact D.newFolder_len ks _
  dat := by
    intro f hf
    obtain ⟨i, hi, rfl⟩ := List.mem_map.1 (show f ∈ (List.range _).map _ from hf)
    exact newFl_ok h ks i
  arm := ⟨by simp [Dk.crash], by simp [Dk.crash]⟩
  rm := h.rm
  nam := newFolder_nam h ks _
  snm := newFolder_nam h ks _
theorem crash_fin {w w6 wr w8 w9 : World} {b fm : Nat} {D : Dk} {L : Lay} {ks : List Int} {newbs : List Nat} (H : DiskAt w b D L) (h6 : Below w.heap.size w w6) (hfm : fm < w6.heap.size) (hfw : w.heap.size ≤ fm)
    (HA : NewAt w6 wr fm D ks (D.leftNames ks).length newbs) (hcl : ownsKV w8 Tryz.prog 9 wr.heap.size (kvMap (fileV newbs) (D.newFolder ks (D.leftNames ks).length))) (h8 : Below wr.heap.size wr w8) (h9 : Touch (· = b) w8 w9)
    (hb : BlockIs w9 b (dkCells D.room fm wr.heap.size (.slice none 0 0) (-1) false) 72) : DkPost b L (D.crash ks) w w9 := by
  have hbl := H.blk.lt
  have hz6 := h6.size
  have hzr := HA.touch.size
  have hz8 := h8.size
  have hcw := ownsKV_lt hcl
  have hk : ∀ k, k < wr.heap.size → k ≠ b → w9.heap[k]? = wr.heap[k]? := fun k h1 h2 => (h9.block k (by omega) h2).trans (h8.block k h1)
  refine ⟨⟨fm, wr.heap.size, .slice none 0 0, newbs⟩, ?_, ?_, ?_⟩
  · exact
    { blk := hb
      mp := ownsKV_block HA.mp (hk fm (by omega) (by omega))
      sf := ownsKV_block hcl (h9.block wr.heap.size hcw (show ¬ wr.heap.size = b by omega))
      st := ⟨rfl, Or.inl ⟨rfl, rfl⟩⟩
      len := by rw [crash_files]; exact HA.len
      fs := fun i hi => by
        rw [crash_files] at hi
        have hm : newbs.getD i 0 ∈ newbs := getD_mem (by rw [HA.len]; exact hi)
        have h1 := HA.lt _ hm
        have h2 := HA.new _ hm
        rw [crash_flAt D ks i hi]
        exact (HA.fs i hi).keep (hk _ h1 (by show newbs.getD i 0 ≠ b; omega))
      nd := by
        simp only [foot, Value.ownBlock, Option.toList, List.nil_append, List.nodup_cons, List.mem_cons, not_or]
        exact ⟨⟨by omega, by omega, fun h => by have := HA.new _ h; omega⟩, ⟨by omega, fun h => by have := HA.new _ h; omega⟩, fun h => by have := HA.lt _ h; omega, HA.nd⟩
      ok := H.ok.crash ks }
  · exact ((((Touch.of_below (fun _ => False) h6).trans HA.touch (fun i hi e => by omega)).trans (Touch.of_below (fun _ => False) h8) (fun _ _ h => h.elim)).mono (fun _ _ h => h.elim)).trans h9 (fun i _ hi => by simp [foot, hi])
  · intro k hk
    have hk : k = b ∨ k = fm ∨ k = wr.heap.size ∨ k ∈ newbs := by
      simpa only [foot, List.mem_cons, List.mem_append, Value.ownBlock, Option.mem_toList, reduceCtorEq, false_or] using hk
    rcases hk with rfl | rfl | rfl | hk
    · exact Or.inl (by simp [foot])
    · exact Or.inr hfw
    · exact Or.inr (by omega)
    · exact Or.inr (by have := HA.new _ hk; omega)
end Go.Proofs.YtpeepdkeicgkiaaGreatDoor
namespace Go.Proofs.YtpeepdkeicgkiaaGreatDoor
set_option linter.unusedVariables false
set_option linter.unusedSimpArgs false
set_option linter.unusedSectionVars false
open Go.RowKit Go.Maps

set_option maxHeartbeats 400000 in
set_option maxRecDepth 100000 in
theorem list_dead (b : Nat) (D : Dk) (L : Lay) (w : World) (h : DiskAt w b D L) (hd : D.dead = true) :
    Calls Tryz.prog 22 #[.pointer (some ⟨b, 0, none⟩)] w fun e w' => e = .returned (.tuple #[.slice none 0 0, .int .i64 10]) ∧ w = w' := by
  have c5 : w.cell? ⟨b, 5, none⟩ = some (.bool D.dead) := h.blk.cell 5
  rw [hd] at c5
  clear h hd
  go_enter Tryz.func22, Tryz.ntmps22
  go_wp2
  go_ret2
  exact ⟨rfl, rfl⟩

set_option maxHeartbeats 400000 in
set_option maxRecDepth 100000 in
theorem list_any (b : Nat) (D : Dk) (L : Lay) (w : World) (h : DiskAt w b D L) (hd : D.dead = false) (hl : D.folder.length ≤ 1000000) :
    Calls Tryz.prog 22 #[.pointer (some ⟨b, 0, none⟩)] w fun e w' => ∃ v, e = .returned (.tuple #[v, .int .i64 0]) ∧ w'.ownsRow w.heap.size 9 1 v (kvNames D.folder).length ((kvNames D.folder).map .string) ∧ Below w.heap.size w w' := by
  have c5 : w.cell? ⟨b, 5, none⟩ = some (.bool D.dead) := h.blk.cell 5
  have c1 : w.cell? ⟨b, 1, none⟩ = some (.map (some L.bm)) := h.blk.cell 1
  rw [hd] at c5
  have HK := Lib.hid (keys_any L.bm w)
  have HS := Lib.hid (sorted_any L.bm _ w h.mp (by rw [kvMap_len]; exact hl))
  rw [kvNames_map] at HS
  clear h hd
  go_enter Tryz.func22, Tryz.ntmps22
  go_wp2_with fail
  refine HK.out.mono ?_
  rintro e w1 ⟨rfl, rfl⟩
  go_wp2_with fail
  refine HS.out.mono ?_
  rintro e w2 ⟨v, rfl, ho, hb⟩
  have HO := Lib.hid ho
  have HB := Lib.hid (((Below.refl w.heap.size w).alloc (Nat.le_refl _) (.cells #[.map (some L.bm)] 69)).trans hb)
  clear ho hb
  go_wp2
  go_ret2
  exact ⟨v, rfl, HO.out, HB.out⟩
end Go.Proofs.YtpeepdkeicgkiaaGreatDoor
