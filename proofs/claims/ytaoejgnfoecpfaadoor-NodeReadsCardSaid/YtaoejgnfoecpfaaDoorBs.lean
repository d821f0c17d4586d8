/- Bytes and texts as lists; a text behind its length: the plain law. -/
import Derived.Test.YtaoejgnfoecpfaaDoorVp
import Derived.Lib.Split
namespace Go.Proofs.YtaoejgnfoecpfaaDoor
open Go.RowKit

def bs (l : List UInt8) : ByteArray := ⟨l.toArray⟩
theorem bs_list (l : List UInt8) : (bs l).data.toList = l := by simp [bs]
theorem bs_size (l : List UInt8) : (bs l).size = l.length := rfl
theorem bs_self (s : ByteArray) : bs s.data.toList = s := by
  apply ByteArray.ext
  simp [bs]
theorem bs_inj {a b : List UInt8} (h : bs a = bs b) : a = b := by
  have := congrArg (fun x : ByteArray => x.data.toList) h
  simpa [bs] using this
theorem bs_app (a b : List UInt8) : bs a ++ bs b = bs (a ++ b) := by
  apply ByteArray.ext
  apply Array.toList_inj.1
  simp [bs]
theorem bs_appS (a : List UInt8) (s : ByteArray) : bs a ++ s = bs (a ++ s.data.toList) := by
  rw [← bs_app, bs_self]
theorem ba_inj {a b : ByteArray} (h : a.data.toList = b.data.toList) : a = b := ByteArray.ext (Array.toList_inj.1 h)
theorem ba_len (s : ByteArray) : s.data.toList.length = s.size := by simp
theorem ext_drop (s : ByteArray) (n : Nat) : (s.extract n s.size).data.toList = s.data.toList.drop n := Lib.extract_to_end s n
theorem ext_take (s : ByteArray) (n : Nat) : (s.extract 0 n).data.toList = s.data.toList.take n := Lib.extract_from_zero s n
theorem bs_drop (l : List UInt8) (n : Nat) : (bs l).extract n (bs l).size = bs (l.drop n) := ba_inj (by rw [ext_drop, bs_list, bs_list])
theorem bs_take (l : List UInt8) (n : Nat) : (bs l).extract 0 n = bs (l.take n) := ba_inj (by rw [ext_take, bs_list, bs_list])
/-- a text behind its length -/
def textL (s : ByteArray) : List UInt8 := varL s.size ++ s.data.toList
/-- what a reader's 'take' gives -/
def takS (s : ByteArray) (b : Bool) (n : Nat) : ByteArray × ByteArray × Bool := if s.size < n then (⟨#[]⟩, s, true) else (s.extract 0 n, s.extract n s.size, b)
theorem takS_bad (s : ByteArray) (n : Nat) : (takS s true n).2.2 = true := by unfold takS; split <;> rfl
theorem takS_le (s : ByteArray) (b : Bool) (n : Nat) : (takS s b n).1.size ≤ s.size ∧ (takS s b n).2.1.size ≤ s.size := by
  unfold takS
  split
  · exact ⟨Nat.zero_le _, Nat.le_refl _⟩
  · exact ⟨by simp only [ByteArray.size_extract]; omega, by simp only [ByteArray.size_extract]; omega⟩
theorem takS_app (t r : List UInt8) (b : Bool) : takS (bs (t ++ r)) b t.length = (bs t, bs r, b) := by
  unfold takS
  rw [if_neg (by rw [bs_size, List.length_append]; omega), bs_take, bs_drop, List.take_left, List.drop_left]
theorem takS_back {s t r : ByteArray} {b : Bool} {n : Nat} (h : takS s b n = (t, r, false)) : b = false ∧ s.data.toList = t.data.toList ++ r.data.toList ∧ t.size = n := by
  unfold takS at h
  split at h
  · simp at h
  · simp only [Prod.mk.injEq] at h
    obtain ⟨rfl, rfl, rfl⟩ := h
    refine ⟨rfl, ?_, ?_⟩
    · rw [ext_drop, ext_take, List.take_append_drop]
    · simp only [ByteArray.size_extract]; omega
end Go.Proofs.YtaoejgnfoecpfaaDoor
