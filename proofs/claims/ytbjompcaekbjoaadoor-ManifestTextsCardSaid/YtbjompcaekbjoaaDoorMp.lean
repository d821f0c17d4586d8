/- Manifests: the plain law. -/
import Derived.Test.YtbjompcaekbjoaaDoorVc
import Derived.Test.YtbjompcaekbjoaaDoorHb
import Derived.Test.YtbjompcaekbjoaaDoorRc
namespace Go.Proofs.YtbjompcaekbjoaaDoor
open Go.RowKit

structure Man where
  time : Int
  tag : ByteArray
  parent : ByteArray
  size : Int
  chunks : List ByteArray
/-- a manifest in form -/
def goodM (m : Man) : Bool :=
  decide (0 ≤ m.time ∧ m.time ≤ 253402300799) && (decide (m.tag.size = 0) || nameOk m.tag) && (decide (m.parent.size = 0) || isNameD m.parent) &&
  decide (1 ≤ m.size ∧ m.size ≤ 4194304 ∧ 1 ≤ m.chunks.length ∧ (m.chunks.length : Int) ≤ m.size) && m.chunks.all fun c => decide (c.size = 32)
def noMan : Man := ⟨0, ⟨#[]⟩, ⟨#[]⟩, 0, []⟩
def bs (l : List UInt8) : ByteArray := ⟨l.toArray⟩
theorem bs_list (l : List UInt8) : (bs l).data.toList = l := by simp [bs]
theorem bs_size (l : List UInt8) : (bs l).size = l.length := rfl
theorem bs_self (s : ByteArray) : bs s.data.toList = s := by
  apply ByteArray.ext
  simp [bs]
theorem bs_inj {a b : List UInt8} (h : bs a = bs b) : a = b := by
  have := congrArg (fun x : ByteArray => x.data.toList) h
  simpa [bs] using this
theorem bs_app (a b : List UInt8) : bs a ++ bs b = bs (a ++ b) := by
  apply ByteArray.ext
  apply Array.toList_inj.1
  simp [bs]
theorem ba_inj {a b : ByteArray} (h : a.data.toList = b.data.toList) : a = b := ByteArray.ext (Array.toList_inj.1 h)
theorem ba_len (s : ByteArray) : s.data.toList.length = s.size := by simp
theorem ext_drop (s : ByteArray) (n : Nat) : (s.extract n s.size).data.toList = s.data.toList.drop n := Lib.extract_to_end s n
theorem ext_take (s : ByteArray) (n : Nat) : (s.extract 0 n).data.toList = s.data.toList.take n := Lib.extract_from_zero s n
theorem bs_drop (l : List UInt8) (n : Nat) : (bs l).extract n (bs l).size = bs (l.drop n) := ba_inj (by rw [ext_drop, bs_list, bs_list])
theorem bs_take (l : List UInt8) (n : Nat) : (bs l).extract 0 n = bs (l.take n) := ba_inj (by rw [ext_take, bs_list, bs_list])
/-- a text behind its length -/
def textL (s : ByteArray) : List UInt8 := varL s.size ++ s.data.toList
/-- all chunks, one behind the other -/
def catL (l : List ByteArray) : List UInt8 := (l.map fun c => c.data.toList).flatten
def manL (m : Man) : List UInt8 := [115, 110, 97, 112] ++ varL m.time.toNat ++ textL m.tag ++ textL m.parent ++ varL m.size.toNat ++ varL m.chunks.length ++ catL m.chunks

/-- what a reader's 'number' gives: the number, the rest, bad? -/
def numS (s : ByteArray) (b : Bool) : Nat × ByteArray × Bool :=
  if (unvarL s.data.toList).2 = 0 ∨ 1099511627776 < (unvarL s.data.toList).1 then (0, s, true) else ((unvarL s.data.toList).1, s.extract (unvarL s.data.toList).2 s.size, b)
/-- what a reader's 'take' gives -/
def takS (s : ByteArray) (b : Bool) (n : Nat) : ByteArray × ByteArray × Bool := if s.size < n then (⟨#[]⟩, s, true) else (s.extract 0 n, s.extract n s.size, b)
def loopS : Nat → ByteArray → Bool → List ByteArray × ByteArray × Bool
  | 0, s, b => ([], s, b)
  | n + 1, s, b => if b = true then ([], s, b) else ((takS s b 32).1 :: (loopS n (takS s b 32).2.1 (takS s b 32).2.2).1, (loopS n (takS s b 32).2.1 (takS s b 32).2.2).2)
theorem numS_bad (s : ByteArray) : (numS s true).2.2 = true := by unfold numS; split <;> rfl
theorem takS_bad (s : ByteArray) (n : Nat) : (takS s true n).2.2 = true := by unfold takS; split <;> rfl
theorem loopS_bad (n : Nat) (s : ByteArray) : (loopS n s true).2.2 = true := by cases n <;> rfl
theorem numS_le (s : ByteArray) (b : Bool) : (numS s b).1 ≤ 1099511627776 ∧ (numS s b).2.1.size ≤ s.size := by
  unfold numS
  split
  · exact ⟨Nat.zero_le _, Nat.le_refl _⟩
  · next h => exact ⟨by simp only; omega, by simp only [ByteArray.size_extract]; omega⟩
theorem takS_le (s : ByteArray) (b : Bool) (n : Nat) : (takS s b n).1.size ≤ s.size ∧ (takS s b n).2.1.size ≤ s.size := by
  unfold takS
  split
  · exact ⟨Nat.zero_le _, Nat.le_refl _⟩
  · exact ⟨by simp only [ByteArray.size_extract]; omega, by simp only [ByteArray.size_extract]; omega⟩
/-- the whole reading, as far as the chunks -/
structure Red where
  m : Man
  s : ByteArray
  bad : Bool
def redS (s0 : ByteArray) (b0 : Bool) : Red :=
  let a1 := numS s0 b0
  let a2 := numS a1.2.1 a1.2.2
  let a3 := takS a2.2.1 a2.2.2 a2.1
  let a4 := numS a3.2.1 a3.2.2
  let a5 := takS a4.2.1 a4.2.2 a4.1
  let a6 := numS a5.2.1 a5.2.2
  let a7 := numS a6.2.1 a6.2.2
  let a8 := loopS a7.1 a7.2.1 a7.2.2
  ⟨⟨a1.1, a3.1, a5.1, a6.1, a8.1⟩, a8.2.1, a8.2.2⟩
def snapL : List UInt8 := [115, 110, 97, 112]
def decS (s : ByteArray) : Man × Int :=
  let r := redS ⟨(Lib.trimPrefix s.data.toList snapL).toArray⟩ (!Lib.hasPrefix s.data.toList snapL)
  if r.bad = true ∨ r.s.size ≠ 0 then (noMan, 3) else if goodM r.m = true then (r.m, 0) else (noMan, 4)

/-- a number at the front is read -/
theorem numS_var (x : Nat) (r : List UInt8) (b : Bool) (h : x ≤ 1099511627776) : numS (bs (varL x ++ r)) b = (x, bs r, b) := by
  have hu := unvar_var x r (by omega)
  have hl := (varF_len 10 x).1
  unfold numS
  rw [bs_list, hu]
  have hne : ¬ ((varL x).length = 0 ∨ 1099511627776 < x) := by
    have : 1 ≤ (varL x).length := hl
    omega
  simp only
  rw [if_neg hne, bs_drop, List.drop_left]
theorem takS_app (t r : List UInt8) (b : Bool) : takS (bs (t ++ r)) b t.length = (bs t, bs r, b) := by
  unfold takS
  rw [if_neg (by rw [bs_size, List.length_append]; omega), bs_take, bs_drop, List.take_left, List.drop_left]
theorem loopS_cat : ∀ (l : List ByteArray) (r : List UInt8), (∀ c ∈ l, c.size = 32) → loopS l.length (bs (catL l ++ r)) false = (l, bs r, false)
  | [], r, _ => rfl
  | c :: l, r, h => by
    have hc := h c (by simp)
    have ht := takS_app c.data.toList (catL l ++ r) false
    rw [ba_len, hc, bs_self] at ht
    have e : catL (c :: l) ++ r = c.data.toList ++ (catL l ++ r) := by simp [catL]
    rw [e]
    simp only [List.length_cons, loopS]
    rw [ht]
    simp only [Bool.false_eq_true, if_false]
    rw [loopS_cat l r (fun x hx => h x (by simp [hx]))]
theorem good_parts {m : Man} (h : goodM m = true) : (0 ≤ m.time ∧ m.time ≤ 253402300799) ∧ (m.tag.size ≤ 60) ∧ m.parent.size ≤ 64 ∧ (1 ≤ m.size ∧ m.size ≤ 4194304 ∧ 1 ≤ m.chunks.length ∧ (m.chunks.length : Int) ≤ m.size) ∧ ∀ c ∈ m.chunks, c.size = 32 := by
  unfold goodM at h
  simp only [Bool.and_eq_true, decide_eq_true_eq, Bool.or_eq_true, List.all_eq_true] at h
  obtain ⟨⟨⟨⟨h1, h2⟩, h3⟩, h4⟩, h5⟩ := h
  refine ⟨h1, ?_, ?_, h4, fun c hc => h5 c hc⟩
  · rcases h2 with h2 | h2
    · omega
    · unfold nameOk at h2
      simp only [Bool.and_eq_true, decide_eq_true_eq] at h2
      exact h2.1.2
  · rcases h3 with h3 | h3
    · omega
    · unfold isNameD at h3
      simp only [Bool.and_eq_true, decide_eq_true_eq] at h3
      omega
theorem redS_text (m : Man) (h : goodM m = true) (r : List UInt8) : redS (bs (varL m.time.toNat ++ textL m.tag ++ textL m.parent ++ varL m.size.toNat ++ varL m.chunks.length ++ catL m.chunks ++ r)) false = ⟨m, bs r, false⟩ := by
  obtain ⟨⟨t1, t2⟩, g1, p1, ⟨z1, z2, c1, c2⟩, hc⟩ := good_parts h
  unfold redS textL
  simp only [List.append_assoc]
  have e1 := numS_var m.time.toNat (varL m.tag.size ++ (m.tag.data.toList ++ (varL m.parent.size ++ (m.parent.data.toList ++ (varL m.size.toNat ++ (varL m.chunks.length ++ (catL m.chunks ++ r))))))) false (by omega)
  have e2 := numS_var m.tag.size (m.tag.data.toList ++ (varL m.parent.size ++ (m.parent.data.toList ++ (varL m.size.toNat ++ (varL m.chunks.length ++ (catL m.chunks ++ r)))))) false (by omega)
  have e3 := takS_app m.tag.data.toList (varL m.parent.size ++ (m.parent.data.toList ++ (varL m.size.toNat ++ (varL m.chunks.length ++ (catL m.chunks ++ r))))) false
  have e4 := numS_var m.parent.size (m.parent.data.toList ++ (varL m.size.toNat ++ (varL m.chunks.length ++ (catL m.chunks ++ r)))) false (by omega)
  have e5 := takS_app m.parent.data.toList (varL m.size.toNat ++ (varL m.chunks.length ++ (catL m.chunks ++ r))) false
  have e6 := numS_var m.size.toNat (varL m.chunks.length ++ (catL m.chunks ++ r)) false (by omega)
  have e7 := numS_var m.chunks.length (catL m.chunks ++ r) false (by omega)
  have e8 := loopS_cat m.chunks r hc
  rw [ba_len, bs_self] at e3 e5
  simp only [e1, e2, e3, e4, e5, e6, e7, e8]
  congr 1
  cases m
  simp only at *
  congr 1 <;> omega
theorem trim_snap (l : List UInt8) : Lib.trimPrefix (snapL ++ l) snapL = l ∧ Lib.hasPrefix (snapL ++ l) snapL = true := by
  constructor
  · simp [Lib.trimPrefix, Lib.hasPrefix, snapL]
  · simp [Lib.hasPrefix, snapL]
/-- THE LAW: what was written is read back -/
theorem decS_text (m : Man) (h : goodM m = true) : decS (bs (manL m)) = (m, 0) := by
  unfold decS
  have e : manL m = snapL ++ (varL m.time.toNat ++ textL m.tag ++ textL m.parent ++ varL m.size.toNat ++ varL m.chunks.length ++ catL m.chunks ++ []) := by
    unfold manL snapL; simp
  rw [bs_list, e, (trim_snap _).1, (trim_snap _).2]
  have := redS_text m h []
  unfold bs at this
  simp only [Bool.not_true]
  rw [this]
  simp [h]
  rfl
theorem manL_inj {a b : Man} (ha : goodM a = true) (hb : goodM b = true) (h : manL a = manL b) : a = b := by
  have e1 := decS_text a ha
  have e2 := decS_text b hb
  rw [h, e2] at e1
  exact (Prod.mk.inj e1).1.symm
end Go.Proofs.YtbjompcaekbjoaaDoor
