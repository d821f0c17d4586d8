/- A tree's nodes as bytes: the plain law. A tree's nodes: their form, what is read, what is written: the plain law. A tree's nodes as interface values: their kind, mode and time; may a link lead there?. A tree's nodes: facts, AsPlain, Target. -/
import Derived.Test.YtaoejgnfoecpfaaDoorJt9
import Derived.Test.YtaoejgnfoecpfaaDoorJt8
import Derived.BigQuiet
namespace Go.Proofs.YtaoejgnfoecpfaaDoor
set_option linter.unusedVariables false
set_option linter.unusedSimpArgs false
set_option linter.unusedSectionVars false
open Go.RowKit

/-- a node's record -/
structure Nr where
  kind : Int
  at_ : ByteArray
  mode : Int
  time : Int
  size : Int
  chunks : List ByteArray
  target : ByteArray
deriving DecidableEq
def noB : ByteArray := ⟨#[]⟩
/-- the chunks' bytes, one behind the other -/
def catN (l : List ByteArray) : List UInt8 := (l.map fun c => c.data.toList).flatten
def tailN (x : Nr) : List UInt8 := if x.kind = 2 then varL x.size.toNat ++ varL x.chunks.length ++ catN x.chunks else if x.kind = 3 then textL x.target else []
theorem tailN_1 {x : Nr} (h : x.kind = 1) : tailN x = [] := by unfold tailN; rw [if_neg (by omega), if_neg (by omega)]
theorem tailN_2 {x : Nr} (h : x.kind = 2) : tailN x = varL x.size.toNat ++ varL x.chunks.length ++ catN x.chunks := by unfold tailN; rw [if_pos h]
theorem tailN_3 {x : Nr} (h : x.kind = 3) : tailN x = textL x.target := by unfold tailN; rw [if_neg (by omega), if_pos h]
def txtN (x : Nr) : List UInt8 := varL x.kind.toNat ++ textL x.at_ ++ varL x.mode.toNat ++ varL x.time.toNat ++ tailN x
def bodyN (l : List Nr) : List UInt8 := (l.map txtN).flatten
def encN (l : List Nr) : List UInt8 := varL l.length ++ bodyN l
/-- a number from the front; an error's number is carried along -/
def numE (s : ByteArray) (e : Nat) : Nat × ByteArray × Nat :=
  if e ≠ 0 then (0, s, e) else if (unvarL s.data.toList).2 = 0 ∨ 1099511627776 < (unvarL s.data.toList).1 then (0, s, 3) else ((unvarL s.data.toList).1, s.extract (unvarL s.data.toList).2 s.size, 0)
def takE (s : ByteArray) (e n : Nat) : ByteArray × ByteArray × Nat :=
  if e ≠ 0 then (noB, s, e) else if s.size < n then (noB, s, 6) else (s.extract 0 n, s.extract n s.size, 0)
def chE : Nat → ByteArray → Nat → List ByteArray × ByteArray × Nat
  | 0, s, e => ([], s, e)
  | n + 1, s, e => if e ≠ 0 then ([], s, e) else ((takE s e 32).1 :: (chE n (takE s e 32).2.1 (takE s e 32).2.2).1, (chE n (takE s e 32).2.1 (takE s e 32).2.2).2)
def failE (e c : Nat) : Nat := if e = 0 then c else e
/-- what stands behind the four first -/
def restE (k : Nat) (a : ByteArray) (m t : Nat) (s : ByteArray) (e : Nat) : Nr × ByteArray × Nat :=
  if k = 2 then (⟨2, a, m, t, (numE s e).1, (chE (numE (numE s e).2.1 (numE s e).2.2).1 (numE (numE s e).2.1 (numE s e).2.2).2.1 (numE (numE s e).2.1 (numE s e).2.2).2.2).1, noB⟩, (chE (numE (numE s e).2.1 (numE s e).2.2).1 (numE (numE s e).2.1 (numE s e).2.2).2.1 (numE (numE s e).2.1 (numE s e).2.2).2.2).2)
  else if k = 3 then (⟨3, a, m, t, 0, [], (takE (numE s e).2.1 (numE s e).2.2 (numE s e).1).1⟩, (takE (numE s e).2.1 (numE s e).2.2 (numE s e).1).2)
  else (⟨k, a, m, t, 0, [], noB⟩, s, if k = 1 then e else failE e 3)
def nodeE (s : ByteArray) (e : Nat) : Nr × ByteArray × Nat :=
  restE (numE s e).1 (takE (numE (numE s e).2.1 (numE s e).2.2).2.1 (numE (numE s e).2.1 (numE s e).2.2).2.2 (numE (numE s e).2.1 (numE s e).2.2).1).1
    (numE (takE (numE (numE s e).2.1 (numE s e).2.2).2.1 (numE (numE s e).2.1 (numE s e).2.2).2.2 (numE (numE s e).2.1 (numE s e).2.2).1).2.1 (takE (numE (numE s e).2.1 (numE s e).2.2).2.1 (numE (numE s e).2.1 (numE s e).2.2).2.2 (numE (numE s e).2.1 (numE s e).2.2).1).2.2).1
    (numE (numE (takE (numE (numE s e).2.1 (numE s e).2.2).2.1 (numE (numE s e).2.1 (numE s e).2.2).2.2 (numE (numE s e).2.1 (numE s e).2.2).1).2.1 (takE (numE (numE s e).2.1 (numE s e).2.2).2.1 (numE (numE s e).2.1 (numE s e).2.2).2.2 (numE (numE s e).2.1 (numE s e).2.2).1).2.2).2.1 (numE (takE (numE (numE s e).2.1 (numE s e).2.2).2.1 (numE (numE s e).2.1 (numE s e).2.2).2.2 (numE (numE s e).2.1 (numE s e).2.2).1).2.1 (takE (numE (numE s e).2.1 (numE s e).2.2).2.1 (numE (numE s e).2.1 (numE s e).2.2).2.2 (numE (numE s e).2.1 (numE s e).2.2).1).2.2).2.2).1
    (numE (numE (takE (numE (numE s e).2.1 (numE s e).2.2).2.1 (numE (numE s e).2.1 (numE s e).2.2).2.2 (numE (numE s e).2.1 (numE s e).2.2).1).2.1 (takE (numE (numE s e).2.1 (numE s e).2.2).2.1 (numE (numE s e).2.1 (numE s e).2.2).2.2 (numE (numE s e).2.1 (numE s e).2.2).1).2.2).2.1 (numE (takE (numE (numE s e).2.1 (numE s e).2.2).2.1 (numE (numE s e).2.1 (numE s e).2.2).2.2 (numE (numE s e).2.1 (numE s e).2.2).1).2.1 (takE (numE (numE s e).2.1 (numE s e).2.2).2.1 (numE (numE s e).2.1 (numE s e).2.2).2.2 (numE (numE s e).2.1 (numE s e).2.2).1).2.2).2.2).2.1
    (numE (numE (takE (numE (numE s e).2.1 (numE s e).2.2).2.1 (numE (numE s e).2.1 (numE s e).2.2).2.2 (numE (numE s e).2.1 (numE s e).2.2).1).2.1 (takE (numE (numE s e).2.1 (numE s e).2.2).2.1 (numE (numE s e).2.1 (numE s e).2.2).2.2 (numE (numE s e).2.1 (numE s e).2.2).1).2.2).2.1 (numE (takE (numE (numE s e).2.1 (numE s e).2.2).2.1 (numE (numE s e).2.1 (numE s e).2.2).2.2 (numE (numE s e).2.1 (numE s e).2.2).1).2.1 (takE (numE (numE s e).2.1 (numE s e).2.2).2.1 (numE (numE s e).2.1 (numE s e).2.2).2.2 (numE (numE s e).2.1 (numE s e).2.2).1).2.2).2.2).2.2
/-- the reading as a chain: each step's outcome named -/
theorem nodeE_of {s s1 s2 s3 s4 s5 : ByteArray} {e e1 e2 e3 e4 e5 k n m t : Nat} {a : ByteArray} (h1 : numE s e = (k, s1, e1)) (h2 : numE s1 e1 = (n, s2, e2)) (h3 : takE s2 e2 n = (a, s3, e3)) (h4 : numE s3 e3 = (m, s4, e4)) (h5 : numE s4 e4 = (t, s5, e5)) : nodeE s e = restE k a m t s5 e5 := by
  unfold nodeE
  simp only [h1, h2, h3, h4, h5]
theorem restE_one {k : Nat} (hk : k = 1) (a : ByteArray) (m t : Nat) (s : ByteArray) (e : Nat) : restE k a m t s e = (⟨k, a, m, t, 0, [], noB⟩, s, e) := by
  unfold restE; rw [if_neg (by omega), if_neg (by omega), if_pos hk]
theorem restE_two {s s1 s2 s3 : ByteArray} {e e1 e2 e3 z c m t : Nat} {a : ByteArray} {l : List ByteArray} (h1 : numE s e = (z, s1, e1)) (h2 : numE s1 e1 = (c, s2, e2)) (h3 : chE c s2 e2 = (l, s3, e3)) : restE 2 a m t s e = (⟨2, a, m, t, z, l, noB⟩, s3, e3) := by
  unfold restE
  rw [if_pos rfl]
  simp only [h1, h2, h3]
theorem restE_three {s s1 s2 : ByteArray} {e e1 e2 n m t : Nat} {a g : ByteArray} (h1 : numE s e = (n, s1, e1)) (h2 : takE s1 e1 n = (g, s2, e2)) : restE 3 a m t s e = (⟨3, a, m, t, 0, [], g⟩, s2, e2) := by
  unfold restE
  rw [if_neg (by decide), if_pos rfl]
  simp only [h1, h2]
theorem restE_no {k : Nat} (h1 : k ≠ 1) (h2 : k ≠ 2) (h3 : k ≠ 3) (a : ByteArray) (m t : Nat) (s : ByteArray) (e : Nat) : restE k a m t s e = (⟨k, a, m, t, 0, [], noB⟩, s, failE e 3) := by
  unfold restE; rw [if_neg h2, if_neg h3, if_neg h1]
theorem numE_bad {e : Nat} (h : e ≠ 0) (s : ByteArray) : numE s e = (0, s, e) := if_pos h
theorem takE_bad {e : Nat} (h : e ≠ 0) (s : ByteArray) (n : Nat) : takE s e n = (noB, s, e) := if_pos h
theorem chE_bad {e : Nat} (h : e ≠ 0) (s : ByteArray) (n : Nat) : chE n s e = ([], s, e) := by
  cases n with
  | zero => rfl
  | succ n => simp only [chE]; rw [if_pos h]
theorem numE_le (s : ByteArray) (e : Nat) : (numE s e).1 ≤ 1099511627776 ∧ (numE s e).2.1.size ≤ s.size := by
  unfold numE
  split
  · exact ⟨Nat.zero_le _, Nat.le_refl _⟩
  · split
    · exact ⟨Nat.zero_le _, Nat.le_refl _⟩
    · exact ⟨by simp only; omega, by simp only [ByteArray.size_extract]; omega⟩
theorem takE_le (s : ByteArray) (e n : Nat) : (takE s e n).1.size ≤ s.size ∧ (takE s e n).2.1.size ≤ s.size := by
  unfold takE
  split
  · exact ⟨Nat.zero_le _, Nat.le_refl _⟩
  · split
    · exact ⟨Nat.zero_le _, Nat.le_refl _⟩
    · exact ⟨by simp only [ByteArray.size_extract]; omega, by simp only [ByteArray.size_extract]; omega⟩
theorem numE_var (x : Nat) (r : List UInt8) (h : x ≤ 1099511627776) : numE (bs (varL x ++ r)) 0 = (x, bs r, 0) := by
  have hu := unvar_var x r (by omega)
  have hl : 1 ≤ (varL x).length := (varF_len 10 x).1
  unfold numE
  rw [bs_list, hu]
  simp only
  rw [if_neg (by decide), if_neg (by omega), bs_drop, List.drop_left]
theorem takE_app (t r : List UInt8) : takE (bs (t ++ r)) 0 t.length = (bs t, bs r, 0) := by
  unfold takE
  rw [if_neg (by decide), if_neg (by rw [bs_size, List.length_append]; omega), bs_take, bs_drop, List.take_left, List.drop_left]
theorem takE_text (t : ByteArray) (r : List UInt8) : takE (bs (t.data.toList ++ r)) 0 t.size = (t, bs r, 0) := by
  have := takE_app t.data.toList r
  rwa [ba_len, bs_self] at this
theorem chE_cat : ∀ (l : List ByteArray) (r : List UInt8), (∀ c ∈ l, c.size = 32) → chE l.length (bs (catN l ++ r)) 0 = (l, bs r, 0)
  | [], _, _ => rfl
  | c :: l, r, h => by
    have ht := takE_text c (catN l ++ r)
    rw [h c (by simp)] at ht
    have e : catN (c :: l) ++ r = c.data.toList ++ (catN l ++ r) := by simp [catN]
    rw [e]
    simp only [List.length_cons, chE]
    rw [ht]
    simp only [ne_eq, not_true, if_false]
    rw [chE_cat l r (fun x hx => h x (by simp [hx]))]
/-- a record whose fields fit, and that bears no others than its kind's -/
structure NrFit (x : Nr) : Prop where
  k1 : 1 ≤ x.kind ∧ x.kind ≤ 3
  at_ : x.at_.size ≤ 1099511627776
  mode : 0 ≤ x.mode ∧ x.mode ≤ 1099511627776
  time : 0 ≤ x.time ∧ x.time ≤ 1099511627776
  two : x.kind = 2 → (0 ≤ x.size ∧ x.size ≤ 1099511627776) ∧ x.chunks.length ≤ 1099511627776 ∧ ∀ c ∈ x.chunks, c.size = 32
  no2 : x.kind ≠ 2 → x.size = 0 ∧ x.chunks = []
  three : x.kind = 3 → x.target.size ≤ 1099511627776
  no3 : x.kind ≠ 3 → x.target = noB
theorem nodeE_text {x : Nr} (h : NrFit x) (r : List UInt8) : nodeE (bs (txtN x ++ r)) 0 = (x, bs r, 0) := by
  obtain ⟨kind, a, mode, time, size, chunks, target⟩ := x
  obtain ⟨⟨k1, k2⟩, ha, ⟨m1, m2⟩, ⟨t1, t2⟩, h2, hn2, h3, hn3⟩ := h
  simp only at *
  obtain ⟨k, rfl⟩ : ∃ k : Nat, kind = k := ⟨kind.toNat, by omega⟩
  obtain ⟨m, rfl⟩ : ∃ k : Nat, mode = k := ⟨mode.toNat, by omega⟩
  obtain ⟨t, rfl⟩ : ∃ k : Nat, time = k := ⟨time.toNat, by omega⟩
  have e0 : ∀ y : List UInt8, txtN ⟨k, a, m, t, size, chunks, target⟩ ++ y = varL k ++ (varL a.size ++ (a.data.toList ++ (varL m ++ (varL t ++ (tailN ⟨k, a, m, t, size, chunks, target⟩ ++ y))))) := by
    intro y
    unfold txtN textL
    simp only [List.append_assoc]
    rfl
  rw [e0]
  rw [nodeE_of (numE_var k _ (by omega)) (numE_var a.size _ ha) (takE_text a _) (numE_var m _ (by omega)) (numE_var t _ (by omega))]
  rcases (by omega : k = 1 ∨ k = 2 ∨ k = 3) with rfl | rfl | rfl
  · obtain ⟨rfl, rfl⟩ := hn2 (by decide)
    obtain rfl := hn3 (by decide)
    rw [restE_one rfl]
    rw [tailN_1 rfl]
    rfl
  · obtain ⟨⟨z1, z2⟩, hl, hc⟩ := h2 rfl
    obtain rfl := hn3 (by decide)
    obtain ⟨z, rfl⟩ : ∃ k : Nat, size = k := ⟨size.toNat, by omega⟩
    have : tailN ⟨((2 : Nat) : Int), a, m, t, z, chunks, noB⟩ ++ r = varL z ++ (varL chunks.length ++ (catN chunks ++ r)) := by
      rw [tailN_2 rfl]
      simp only [List.append_assoc]
      rfl
    rw [this, restE_two (numE_var z _ (by omega)) (numE_var chunks.length _ hl) (chE_cat chunks r hc)]
    rfl
  · obtain ⟨rfl, rfl⟩ := hn2 (by decide)
    have : tailN ⟨((3 : Nat) : Int), a, m, t, 0, [], target⟩ ++ r = varL target.size ++ (target.data.toList ++ r) := by
      rw [tailN_3 rfl]
      unfold textL
      simp only [List.append_assoc]
    rw [this, restE_three (numE_var target.size _ (h3 rfl)) (takE_text target r)]
    rfl
/-- so many nodes -/
def nodesE : Nat → ByteArray → Nat → List Nr × ByteArray × Nat
  | 0, s, e => ([], s, e)
  | n + 1, s, e => if e ≠ 0 then ([], s, e) else ((nodeE s e).1 :: (nodesE n (nodeE s e).2.1 (nodeE s e).2.2).1, (nodesE n (nodeE s e).2.1 (nodeE s e).2.2).2)
theorem nodesE_body : ∀ (l : List Nr) (r : List UInt8), (∀ x ∈ l, NrFit x) → nodesE l.length (bs (bodyN l ++ r)) 0 = (l, bs r, 0)
  | [], _, _ => rfl
  | x :: l, r, h => by
    have e : bodyN (x :: l) ++ r = txtN x ++ (bodyN l ++ r) := by simp [bodyN]
    rw [e]
    simp only [List.length_cons, nodesE]
    rw [nodeE_text (h x (by simp))]
    simp only [ne_eq, not_true, if_false]
    rw [nodesE_body l r (fun y hy => h y (by simp [hy]))]
/-- what was read is written as it was -/
theorem numE_back {s r : ByteArray} {e x : Nat} (h : numE s e = (x, r, 0)) : e = 0 ∧ s.data.toList = varL x ++ r.data.toList ∧ x ≤ 1099511627776 := by
  unfold numE at h
  split at h
  · next he => simp only [Prod.mk.injEq] at h; exact absurd h.2.2 he
  · next he =>
    split at h
    · simp at h
    · next hc =>
      simp only [Prod.mk.injEq] at h
      obtain ⟨rfl, rfl, _⟩ := h
      have hb := unvar_back (l := s.data.toList) (x := (unvarL s.data.toList).1) (n := (unvarL s.data.toList).2) rfl (fun e => hc (Or.inl e))
      refine ⟨by omega, ?_, by omega⟩
      rw [ext_drop, ← hb.2.2.1, List.take_append_drop]
theorem takE_back {s t r : ByteArray} {e n : Nat} (h : takE s e n = (t, r, 0)) : e = 0 ∧ s.data.toList = t.data.toList ++ r.data.toList ∧ t.size = n := by
  unfold takE at h
  split at h
  · next he => simp only [Prod.mk.injEq] at h; exact absurd h.2.2 he
  · next he =>
    split at h
    · simp at h
    · simp only [Prod.mk.injEq] at h
      obtain ⟨rfl, rfl, _⟩ := h
      refine ⟨by omega, ?_, ?_⟩
      · rw [ext_drop, ext_take, List.take_append_drop]
      · simp only [ByteArray.size_extract]; omega
theorem chE_back : ∀ (n : Nat) {s r : ByteArray} {e : Nat} {l : List ByteArray}, chE n s e = (l, r, 0) → e = 0 ∧ s.data.toList = catN l ++ r.data.toList ∧ l.length = n ∧ ∀ c ∈ l, c.size = 32
  | 0, s, r, e, l, h => by
    simp only [chE, Prod.mk.injEq] at h
    obtain ⟨rfl, rfl, rfl⟩ := h
    exact ⟨rfl, rfl, rfl, fun _ h => by cases h⟩
  | n + 1, s, r, e, l, h => by
    by_cases he : e = 0
    · subst he
      rcases ht : takE s 0 32 with ⟨t, s2, e2⟩
      rcases hl : chE n s2 e2 with ⟨l', r', e'⟩
      simp only [chE, ht, hl, ne_eq, not_true, if_false, Prod.mk.injEq] at h
      obtain ⟨rfl, rfl, rfl⟩ := h
      obtain ⟨rfl, h2, h3, h5⟩ := chE_back n hl
      obtain ⟨_, h4, h6⟩ := takE_back ht
      refine ⟨rfl, ?_, by simp [h3], fun c hc => ?_⟩
      · rw [h4, h2]; simp [catN]
      · rcases List.mem_cons.1 hc with rfl | hc
        · exact h6
        · exact h5 c hc
    · rw [chE_bad he] at h
      simp only [Prod.mk.injEq] at h
      exact absurd h.2.2 he
theorem nodeE_back {s r : ByteArray} {e : Nat} {x : Nr} (h : nodeE s e = (x, r, 0)) (hs : s.size ≤ 1099511627776) : e = 0 ∧ s.data.toList = txtN x ++ r.data.toList ∧ NrFit x := by
  rcases h1 : numE s e with ⟨k, s1, e1⟩
  rcases h2 : numE s1 e1 with ⟨n, s2, e2⟩
  rcases h3 : takE s2 e2 n with ⟨a, s3, e3⟩
  rcases h4 : numE s3 e3 with ⟨m, s4, e4⟩
  rcases h5 : numE s4 e4 with ⟨t, s5, e5⟩
  rw [nodeE_of h1 h2 h3 h4 h5] at h
  have key : e5 = 0 → e = 0 ∧ s.data.toList = varL k ++ (varL a.size ++ (a.data.toList ++ (varL m ++ (varL t ++ s5.data.toList)))) ∧ a.size ≤ 1099511627776 ∧ m ≤ 1099511627776 ∧ t ≤ 1099511627776 ∧ s5.size ≤ 1099511627776 := by
    rintro rfl
    obtain ⟨rfl, a5, b5⟩ := numE_back h5
    obtain ⟨rfl, a4, b4⟩ := numE_back h4
    obtain ⟨rfl, a3, b3⟩ := takE_back h3
    obtain ⟨rfl, a2, b2⟩ := numE_back h2
    obtain ⟨rfl, a1, b1⟩ := numE_back h1
    have z1 := (numE_le s 0).2
    have z2 := (numE_le s1 0).2
    have z3 := (takE_le s2 0 n).2
    have z4 := (numE_le s3 0).2
    have z5 := (numE_le s4 0).2
    rw [h1] at z1
    rw [h2] at z2
    rw [h3] at z3
    rw [h4] at z4
    rw [h5] at z5
    simp only at z1 z2 z3 z4 z5
    exact ⟨rfl, by rw [a1, a2, a3, a4, a5, b3], by omega, b4, b5, by omega⟩
  by_cases k2 : k = 2
  · subst k2
    rcases h6 : numE s5 e5 with ⟨z, s6, e6⟩
    rcases h7 : numE s6 e6 with ⟨c, s7, e7⟩
    rcases h8 : chE c s7 e7 with ⟨l, s8, e8⟩
    rw [restE_two h6 h7 h8] at h
    simp only [Prod.mk.injEq] at h
    obtain ⟨rfl, rfl, rfl⟩ := h
    obtain ⟨rfl, a8, b8, c8⟩ := chE_back _ h8
    obtain ⟨rfl, a7, b7⟩ := numE_back h7
    obtain ⟨rfl, a6, b6⟩ := numE_back h6
    obtain ⟨rfl, ha, q1, q2, q3, _⟩ := key rfl
    refine ⟨rfl, ?_, ⟨by simp only; omega, by simp only; omega⟩, q1, ⟨by simp only; omega, by simp only; omega⟩, ⟨by simp only; omega, by simp only; omega⟩, fun _ => ⟨⟨by simp only; omega, by simp only; omega⟩, by simp only; omega, c8⟩, (fun h => absurd rfl h), (fun h => absurd h (by simp)), fun _ => rfl⟩
    rw [ha, a6, a7, a8]
    unfold txtN textL
    rw [tailN_2 rfl]
    simp only [List.append_assoc, b8]
    rfl
  · by_cases k3 : k = 3
    · subst k3
      rcases h6 : numE s5 e5 with ⟨c, s6, e6⟩
      rcases h7 : takE s6 e6 c with ⟨g, s7, e7⟩
      rw [restE_three h6 h7] at h
      simp only [Prod.mk.injEq] at h
      obtain ⟨rfl, rfl, rfl⟩ := h
      obtain ⟨rfl, a7, b7⟩ := takE_back h7
      obtain ⟨rfl, a6, b6⟩ := numE_back h6
      obtain ⟨rfl, ha, q1, q2, q3, _⟩ := key rfl
      refine ⟨rfl, ?_, ⟨by simp only; omega, by simp only; omega⟩, q1, ⟨by simp only; omega, by simp only; omega⟩, ⟨by simp only; omega, by simp only; omega⟩, (fun h => absurd h (by simp)), (fun _ => ⟨rfl, rfl⟩), (fun _ => by simp only; omega), (fun h => absurd rfl h)⟩
      rw [ha, a6, a7]
      unfold txtN
      rw [tailN_3 rfl]
      unfold textL
      simp only [List.append_assoc, b7]
      rfl
    · by_cases k1 : k = 1
      · subst k1
        rw [restE_one rfl] at h
        simp only [Prod.mk.injEq] at h
        obtain ⟨rfl, rfl, rfl⟩ := h
        obtain ⟨rfl, ha, q1, q2, q3, _⟩ := key rfl
        refine ⟨rfl, ?_, ⟨by simp only; omega, by simp only; omega⟩, q1, ⟨by simp only; omega, by simp only; omega⟩, ⟨by simp only; omega, by simp only; omega⟩, (fun h => absurd h (by simp)), (fun _ => ⟨rfl, rfl⟩), (fun h => absurd h (by simp)), fun _ => rfl⟩
        rw [ha]
        unfold txtN textL
        rw [tailN_1 rfl]
        simp only [List.append_assoc, List.append_nil]
        rfl
      · rw [restE_no k1 k2 k3] at h
        simp only [Prod.mk.injEq] at h
        have := h.2.2
        unfold failE at this
        split at this <;> omega
theorem nodesE_bad {e : Nat} (h : e ≠ 0) (s : ByteArray) (n : Nat) : nodesE n s e = ([], s, e) := by
  cases n with
  | zero => rfl
  | succ n => simp only [nodesE]; rw [if_pos h]
theorem nodeE_size (s : ByteArray) (e : Nat) : (nodeE s e).2.1.size ≤ s.size := by
  rcases h1 : numE s e with ⟨k, s1, e1⟩
  rcases h2 : numE s1 e1 with ⟨n, s2, e2⟩
  rcases h3 : takE s2 e2 n with ⟨a, s3, e3⟩
  rcases h4 : numE s3 e3 with ⟨m, s4, e4⟩
  rcases h5 : numE s4 e4 with ⟨t, s5, e5⟩
  have z1 := (numE_le s e).2
  have z2 := (numE_le s1 e1).2
  have z3 := (takE_le s2 e2 n).2
  have z4 := (numE_le s3 e3).2
  have z5 := (numE_le s4 e4).2
  rw [h1] at z1
  rw [h2] at z2
  rw [h3] at z3
  rw [h4] at z4
  rw [h5] at z5
  simp only at z1 z2 z3 z4 z5
  have hch : ∀ (n : Nat) (s : ByteArray) (e : Nat), (chE n s e).2.1.size ≤ s.size := by
    intro n
    induction n with
    | zero => intro s e; exact Nat.le_refl _
    | succ n ih =>
      intro s e
      simp only [chE]
      split
      · exact Nat.le_refl _
      · exact Nat.le_trans (ih _ _) (takE_le s e 32).2
  rw [nodeE_of h1 h2 h3 h4 h5]
  unfold restE
  split
  · exact Nat.le_trans (hch _ _ _) (Nat.le_trans (numE_le _ _).2 (Nat.le_trans (numE_le _ _).2 (by omega)))
  · split
    · exact Nat.le_trans (takE_le _ _ _).2 (Nat.le_trans (numE_le _ _).2 (by omega))
    · simp only; omega
theorem nodesE_back : ∀ (n : Nat) {s r : ByteArray} {e : Nat} {l : List Nr}, nodesE n s e = (l, r, 0) → s.size ≤ 1099511627776 → e = 0 ∧ s.data.toList = bodyN l ++ r.data.toList ∧ l.length = n ∧ ∀ x ∈ l, NrFit x
  | 0, s, r, e, l, h, _ => by
    simp only [nodesE, Prod.mk.injEq] at h
    obtain ⟨rfl, rfl, rfl⟩ := h
    exact ⟨rfl, rfl, rfl, fun _ h => by cases h⟩
  | n + 1, s, r, e, l, h, hs => by
    by_cases he : e = 0
    · subst he
      rcases ht : nodeE s 0 with ⟨t, s2, e2⟩
      rcases hl : nodesE n s2 e2 with ⟨l', r', e'⟩
      simp only [nodesE, ht, hl, ne_eq, not_true, if_false, Prod.mk.injEq] at h
      obtain ⟨rfl, rfl, rfl⟩ := h
      have hz := nodeE_size s 0
      rw [ht] at hz
      obtain ⟨rfl, h2, h3, h5⟩ := nodesE_back n hl (Nat.le_trans hz hs)
      obtain ⟨_, h4, h6⟩ := nodeE_back ht hs
      refine ⟨rfl, ?_, by simp [h3], fun c hc => ?_⟩
      · rw [h4, h2]; simp [bodyN]
      · rcases List.mem_cons.1 hc with rfl | hc
        · exact h6
        · exact h5 c hc
    · rw [nodesE_bad he] at h
      simp only [Prod.mk.injEq] at h
      exact absurd h.2.2 he
end Go.Proofs.YtaoejgnfoecpfaaDoor
namespace Go.Proofs.YtaoejgnfoecpfaaDoor
set_option linter.unusedVariables false
set_option linter.unusedSimpArgs false
set_option linter.unusedSectionVars false
open Go.RowKit

/-- may a link lead there? -/
def tgt (s : ByteArray) : Bool := decide (1 ≤ s.size) && decide (s.size ≤ 200) && s.data.toList.all fun c => decide (c ≠ 0)
/-- a file's size and chunks -/
def fileOk (x : Nr) : Bool := decide (0 ≤ x.size) && decide (x.size ≤ 32768) && decide ((x.chunks.length : Int) ≤ x.size) && !(decide (0 < x.size) && decide (x.chunks.length = 0)) && x.chunks.all fun c => decide (c.size = 32)
def formOk (x : Nr) : Bool := decide (0 ≤ x.mode) && decide (x.mode ≤ 511) && decide (0 ≤ x.time) && decide (x.time ≤ 253402300799) && (!decide (x.kind = 3) || tgt x.target) && (!decide (x.kind = 2) || fileOk x)
def kindOk (x : Nr) : Bool := decide (1 ≤ x.kind) && decide (x.kind ≤ 3)
/-- a node's error by itself -/
def fitN (x : Nr) : Nat := if kindOk x = false then 12 else if isPath x.at_ = false then 11 else if formOk x = false then 4 else 0
/-- is the folder of a path among these? -/
def thereN (pre : List Nr) (p : ByteArray) : Bool := decide (p.size = 0) || pre.any fun m => decide (m.kind = 1) && decide (m.at_ = p)
/-- the error of a node behind others -/
def stepN (pre : List Nr) (x : Nr) : Nat :=
  if fitN x ≠ 0 then fitN x else if (match pre.getLast? with | some y => decide (cmpL (partsP y.at_) (partsP x.at_) ≠ -1) | none => false) = true then 4 else if thereN pre (parentP x.at_) = false then 7 else 0
def goN : List Nr → List Nr → Nat
  | _, [] => 0
  | pre, x :: r => if stepN pre x ≠ 0 then stepN pre x else goN (pre ++ [x]) r
def chkN (l : List Nr) : Nat := if 200 < l.length then 2 else goN [] l
theorem fit_parts {x : Nr} (h : fitN x = 0) : kindOk x = true ∧ isPath x.at_ = true ∧ formOk x = true := by
  unfold fitN at h
  split at h
  · cases h
  · split at h
    · cases h
    · split at h
      · cases h
      · refine ⟨?_, ?_, ?_⟩ <;> simp_all
theorem path_size {s : ByteArray} (h : isPath s = true) : s.size ≤ 200 := by
  unfold isPath at h
  simp only [Bool.and_eq_true, decide_eq_true_eq] at h
  exact h.1.1
/-- a record that bears nothing but its kind's -/
def PureN (x : Nr) : Prop := (x.kind ≠ 2 → x.size = 0 ∧ x.chunks = []) ∧ (x.kind ≠ 3 → x.target = noB)
theorem fit_nr {x : Nr} (h : fitN x = 0) (hp : PureN x) : NrFit x := by
  obtain ⟨h1, h2, h3⟩ := fit_parts h
  unfold kindOk at h1
  unfold formOk at h3
  simp only [Bool.and_eq_true, decide_eq_true_eq] at h1 h3
  obtain ⟨⟨⟨⟨⟨m1, m2⟩, t1⟩, t2⟩, h4⟩, h5⟩ := h3
  refine ⟨h1, Nat.le_trans (path_size h2) (by decide), ⟨m1, by omega⟩, ⟨t1, by omega⟩, fun hk => ?_, hp.1, fun hk => ?_, hp.2⟩
  · rw [hk] at h5
    simp only [decide_true, Bool.not_true, Bool.false_or] at h5
    unfold fileOk at h5
    simp only [Bool.and_eq_true, decide_eq_true_eq, List.all_eq_true] at h5
    obtain ⟨⟨⟨⟨z1, z2⟩, z3⟩, _⟩, z4⟩ := h5
    exact ⟨⟨z1, by omega⟩, by omega, z4⟩
  · rw [hk] at h4
    simp only [decide_true, Bool.not_true, Bool.false_or] at h4
    unfold tgt at h4
    simp only [Bool.and_eq_true, decide_eq_true_eq] at h4
    omega
theorem go_fit : ∀ (l pre : List Nr), goN pre l = 0 → ∀ x ∈ l, fitN x = 0
  | [], _, _, x, hx => by cases hx
  | y :: r, pre, h, x, hx => by
    simp only [goN] at h
    split at h
    · next hs => exact absurd h hs
    · next hs =>
      have hs : stepN pre y = 0 := by omega
      rcases List.mem_cons.1 hx with rfl | hx
      · unfold stepN at hs
        split at hs
        · next h1 => exact absurd hs h1
        · next h1 => omega
      · exact go_fit r _ h x hx
theorem chk_fit {l : List Nr} (h : chkN l = 0) : l.length ≤ 200 ∧ ∀ x ∈ l, fitN x = 0 := by
  unfold chkN at h
  split at h
  · cases h
  · exact ⟨by omega, go_fit l [] h⟩
/-- what a decoder gives -/
def endN (l : List Nr) (s : ByteArray) (e : Nat) : List Nr × Nat := if e ≠ 0 then ([], e) else if s.size ≠ 0 then ([], 3) else if chkN l ≠ 0 then ([], chkN l) else (l, 0)
def decN (s : ByteArray) : List Nr × Nat :=
  if (numE s 0).2.2 = 0 ∧ 200 < (numE s 0).1 then ([], 2) else
  endN (nodesE (numE s 0).1 (numE s 0).2.1 (numE s 0).2.2).1 (nodesE (numE s 0).1 (numE s 0).2.1 (numE s 0).2.2).2.1 (nodesE (numE s 0).1 (numE s 0).2.1 (numE s 0).2.2).2.2
theorem decN_of {s s1 s2 : ByteArray} {n e1 e2 : Nat} {l : List Nr} (h1 : numE s 0 = (n, s1, e1)) (h2 : ¬ (e1 = 0 ∧ 200 < n)) (h3 : nodesE n s1 e1 = (l, s2, e2)) : decN s = endN l s2 e2 := by
  unfold decN
  simp only [h1, h3]
  rw [if_neg h2]
theorem decN_big {s s1 : ByteArray} {n e1 : Nat} (h1 : numE s 0 = (n, s1, e1)) (h2 : e1 = 0 ∧ 200 < n) : decN s = ([], 2) := by
  unfold decN
  simp only [h1]
  rw [if_pos h2]
theorem decN_enc {l : List Nr} (h : chkN l = 0) (hp : ∀ x ∈ l, PureN x) : decN (bs (encN l)) = (l, 0) := by
  obtain ⟨hl, hf⟩ := chk_fit h
  have h1 := numE_var l.length (bodyN l) (by omega)
  have h2 := nodesE_body l [] (fun x hx => fit_nr (hf x hx) (hp x hx))
  rw [List.append_nil] at h2
  unfold encN
  rw [decN_of h1 (by omega) h2]
  unfold endN
  rw [if_neg (by decide), if_neg (by decide), if_neg (by omega)]
theorem decN_more {l : List Nr} (h : chkN l = 0) (hp : ∀ x ∈ l, PureN x) (c : UInt8) : decN (bs (encN l ++ [c])) = ([], 3) := by
  obtain ⟨hl, hf⟩ := chk_fit h
  have h1 := numE_var l.length (bodyN l ++ [c]) (by omega)
  have h2 := nodesE_body l [c] (fun x hx => fit_nr (hf x hx) (hp x hx))
  unfold encN
  rw [List.append_assoc, decN_of h1 (by omega) h2]
  unfold endN
  rw [if_neg (by decide), if_pos (by rw [bs_size]; simp)]
theorem encN_inj {a b : List Nr} (ha : chkN a = 0) (hb : chkN b = 0) (pa : ∀ x ∈ a, PureN x) (pb : ∀ x ∈ b, PureN x) (h : encN a = encN b) : a = b := by
  have h1 := decN_enc ha pa
  rw [h, decN_enc hb pb] at h1
  simp only [Prod.mk.injEq] at h1
  exact h1.1.symm
theorem decN_back {s : ByteArray} (h : (decN s).2 = 0) (hs : s.size ≤ 1099511627776) : chkN (decN s).1 = 0 ∧ bs (encN (decN s).1) = s ∧ ∀ x ∈ (decN s).1, PureN x := by
  rcases h1 : numE s 0 with ⟨n, s1, e1⟩
  by_cases h2 : e1 = 0 ∧ 200 < n
  · rw [decN_big h1 h2] at h; cases h
  rcases h3 : nodesE n s1 e1 with ⟨l, s2, e2⟩
  rw [decN_of h1 h2 h3] at h ⊢
  unfold endN at h ⊢
  by_cases he : e2 = 0
  · subst he
    rw [if_neg (by decide)] at h ⊢
    by_cases hz : s2.size = 0
    · rw [if_neg (by omega)] at h ⊢
      by_cases hc : chkN l = 0
      · rw [if_neg (by omega)]
        have z1 := (numE_le s 0).2
        rw [h1] at z1
        obtain ⟨rfl, a3, b3, c3⟩ := nodesE_back n h3 (Nat.le_trans z1 hs)
        obtain ⟨_, a1, _⟩ := numE_back h1
        refine ⟨hc, ?_, fun x hx => ⟨(c3 x hx).no2, (c3 x hx).no3⟩⟩
        apply ba_inj
        rw [bs_list, a1, a3]
        have : s2.data.toList = [] := List.eq_nil_of_length_eq_zero (by rw [ba_len, hz])
        rw [this, List.append_nil]
        unfold encN
        rw [b3]
      · rw [if_pos hc] at h
        exact absurd h hc
    · rw [if_pos hz] at h; cases h
  · rw [if_pos he] at h
    exact absurd h he
theorem decN_no {s : ByteArray} (h : (decN s).2 ≠ 0) : (decN s).1 = [] := by
  rcases h1 : numE s 0 with ⟨n, s1, e1⟩
  by_cases h2 : e1 = 0 ∧ 200 < n
  · rw [decN_big h1 h2]
  rcases h3 : nodesE n s1 e1 with ⟨l, s2, e2⟩
  rw [decN_of h1 h2 h3] at h ⊢
  unfold endN at h ⊢
  split
  · rfl
  · split
    · rfl
    · split
      · rfl
      · next h1 h2 h3 => rw [if_neg h1, if_neg h2, if_neg h3] at h; exact absurd rfl h
end Go.Proofs.YtaoejgnfoecpfaaDoor
namespace Go.Proofs.YtaoejgnfoecpfaaDoor
set_option linter.unusedVariables false
set_option linter.unusedSimpArgs false
set_option linter.unusedSectionVars false
open Go.RowKit

def folV (a : ByteArray) (m t : Int) : Value := .iface 26 (.agg #[.string a, .int .i64 m, .int .i64 t])
def plaV (a : ByteArray) (m t z : Int) (A : Option Addr) (n c : Nat) : Value := .iface 75 (.agg #[.string a, .int .i64 m, .int .i64 t, .int .i64 z, .slice A n c])
def symV (a : ByteArray) (m t : Int) (g : ByteArray) : Value := .iface 103 (.agg #[.string a, .int .i64 m, .int .i64 t, .string g])
/-- a node's value: of a record -/
def NodeIs (w : World) (v : Value) (x : Nr) : Prop :=
  (x.kind = 1 ∧ v = folV x.at_ x.mode x.time) ∨
  (x.kind = 2 ∧ ∃ A c, v = plaV x.at_ x.mode x.time x.size A x.chunks.length c ∧ StrsA w w.heap.size A x.chunks ∧ (A = none → c = 0)) ∨
  (x.kind = 3 ∧ v = symV x.at_ x.mode x.time x.target) ∨
  (kindOk x = false ∧ (v = .nilIface ∨ ∃ g, v = .iface 134 (.pointer (some ⟨g, 0, none⟩))))
theorem NodeIs.below {w w' : World} {v : Value} {x : Nr} (h : NodeIs w v x) (hb : Below w.heap.size w w') : NodeIs w' v x := by
  rcases h with h | ⟨h, A, c, h1, h2, h3⟩ | h | h
  · exact .inl h
  · exact .inr (.inl ⟨h, A, c, h1, h2.below hb, h3⟩)
  · exact .inr (.inr (.inl h))
  · exact .inr (.inr (.inr h))
def kindR (x : Nr) : Int := if kindOk x = true then x.kind else 0
theorem kindOk_of {x : Nr} (h : 1 ≤ x.kind ∧ x.kind ≤ 3) : kindOk x = true := by unfold kindOk; simp [h]
def zFol : Value := .agg #[.string ⟨#[]⟩, .int .i64 0, .int .i64 0]
def zPla : Value := .agg #[.string ⟨#[]⟩, .int .i64 0, .int .i64 0, .int .i64 0, .slice none 0 0]
def zSym : Value := .agg #[.string ⟨#[]⟩, .int .i64 0, .int .i64 0, .string ⟨#[]⟩]
theorem taFF (u : Value) (w : World) : (Instr.typeAssert (.iface 26 u) 35 26 true).run Tryd.prog w = .ok (.tuple #[u, .bool true]) w := by kernel_rfl
theorem taPP (u : Value) (w : World) : (Instr.typeAssert (.iface 75 u) 35 75 true).run Tryd.prog w = .ok (.tuple #[u, .bool true]) w := by kernel_rfl
theorem taSS (u : Value) (w : World) : (Instr.typeAssert (.iface 103 u) 35 103 true).run Tryd.prog w = .ok (.tuple #[u, .bool true]) w := by kernel_rfl
theorem taPF (u : Value) (w : World) : (Instr.typeAssert (.iface 75 u) 35 26 true).run Tryd.prog w = .ok (.tuple #[zFol, .bool false]) w := by kernel_rfl
theorem taSF (u : Value) (w : World) : (Instr.typeAssert (.iface 103 u) 35 26 true).run Tryd.prog w = .ok (.tuple #[zFol, .bool false]) w := by kernel_rfl
theorem taQF (u : Value) (w : World) : (Instr.typeAssert (.iface 134 u) 35 26 true).run Tryd.prog w = .ok (.tuple #[zFol, .bool false]) w := by kernel_rfl
theorem taNF (w : World) : (Instr.typeAssert .nilIface 35 26 true).run Tryd.prog w = .ok (.tuple #[zFol, .bool false]) w := by kernel_rfl
theorem taFP (u : Value) (w : World) : (Instr.typeAssert (.iface 26 u) 35 75 true).run Tryd.prog w = .ok (.tuple #[zPla, .bool false]) w := by kernel_rfl
theorem taSP (u : Value) (w : World) : (Instr.typeAssert (.iface 103 u) 35 75 true).run Tryd.prog w = .ok (.tuple #[zPla, .bool false]) w := by kernel_rfl
theorem taQP (u : Value) (w : World) : (Instr.typeAssert (.iface 134 u) 35 75 true).run Tryd.prog w = .ok (.tuple #[zPla, .bool false]) w := by kernel_rfl
theorem taNP (w : World) : (Instr.typeAssert .nilIface 35 75 true).run Tryd.prog w = .ok (.tuple #[zPla, .bool false]) w := by kernel_rfl
theorem taFS (u : Value) (w : World) : (Instr.typeAssert (.iface 26 u) 35 103 true).run Tryd.prog w = .ok (.tuple #[zSym, .bool false]) w := by kernel_rfl
theorem taPS (u : Value) (w : World) : (Instr.typeAssert (.iface 75 u) 35 103 true).run Tryd.prog w = .ok (.tuple #[zSym, .bool false]) w := by kernel_rfl
theorem taQS (u : Value) (w : World) : (Instr.typeAssert (.iface 134 u) 35 103 true).run Tryd.prog w = .ok (.tuple #[zSym, .bool false]) w := by kernel_rfl
theorem taNS (w : World) : (Instr.typeAssert .nilIface 35 103 true).run Tryd.prog w = .ok (.tuple #[zSym, .bool false]) w := by kernel_rfl
theorem kind_any (v : Value) (x : Nr) (w : World) (h : NodeIs w v x) : Calls Tryd.prog 16 #[v] w fun e w' => e = .returned (.int .i64 (kindR x)) ∧ w = w' := by
  have t1 := taFF
  have t2 := taPP
  have t3 := taSS
  have t4 := taPF
  have t5 := taSF
  have t6 := taQF
  have t7 := taNF
  have t8 := taSP
  have t9 := taQP
  have t10 := taNP
  have t11 := taQS
  have t12 := taNS
  rcases h with ⟨h, rfl⟩ | ⟨h, A, c, rfl, _⟩ | ⟨h, rfl⟩ | ⟨h, rfl | ⟨g, rfl⟩⟩
  · have hk : kindR x = 1 := by unfold kindR; rw [if_pos (kindOk_of (by omega)), h]
    rw [hk]
    unfold folV
    clear h hk
    go_enter Tryd.func16, Tryd.ntmps16
    go_wp2
    go_ret
    exact ⟨rfl, rfl⟩
  · have hk : kindR x = 2 := by unfold kindR; rw [if_pos (kindOk_of (by omega)), h]
    rw [hk]
    unfold plaV
    clear h hk
    go_enter Tryd.func16, Tryd.ntmps16
    go_wp2
    go_ret
    exact ⟨rfl, rfl⟩
  · have hk : kindR x = 3 := by unfold kindR; rw [if_pos (kindOk_of (by omega)), h]
    rw [hk]
    unfold symV
    clear h hk
    go_enter Tryd.func16, Tryd.ntmps16
    go_wp2
    go_ret
    exact ⟨rfl, rfl⟩
  all_goals
    have hk : kindR x = 0 := by unfold kindR; rw [h]; rfl
    rw [hk]
    clear h hk
    go_enter Tryd.func16, Tryd.ntmps16
    go_wp2
    go_ret
    exact ⟨rfl, rfl⟩
end Go.Proofs.YtaoejgnfoecpfaaDoor
namespace Go.Proofs.YtaoejgnfoecpfaaDoor
set_option linter.unusedVariables false
set_option linter.unusedSimpArgs false
set_option linter.unusedSectionVars false
open Go.RowKit

def FactsPost (x : Nr) (w : World) (e : Ending) (w' : World) : Prop := e = .returned (.tuple #[.int .i64 x.mode, .int .i64 x.time]) ∧ Below w.heap.size w w'
theorem facts_any (v : Value) (x : Nr) (w : World) (h : NodeIs w v x) (hk : kindOk x = true) : Calls Tryd.prog 65 #[v] w (FactsPost x w) := by
  have t1 := taFF
  have t2 := taPP
  have t3 := taSS
  have t4 := taPF
  have t5 := taSF
  have t8 := taSP
  rcases h with ⟨h, rfl⟩ | ⟨h, A, c, rfl, _⟩ | ⟨h, rfl⟩ | ⟨h, _⟩
  · unfold folV
    have hb := (Below.refl w.heap.size w).alloc (Nat.le_refl _) (.cells #[.string x.at_, .int .i64 x.mode, .int .i64 x.time] 26)
    have HB := Lib.hid hb
    clear hk h hb
    go_enter Tryd.func65, Tryd.ntmps65
    go_wp2
    go_quiet (fail)
    go_wp2
    go_ret2
    exact ⟨rfl, Go.below_drewN HB.out nq⟩
  · unfold plaV
    have hb := (Below.refl w.heap.size w).alloc (Nat.le_refl _) (.cells #[.string x.at_, .int .i64 x.mode, .int .i64 x.time, .int .i64 x.size, .slice A x.chunks.length c] 75)
    have HB := Lib.hid hb
    clear hk h hb
    go_enter Tryd.func65, Tryd.ntmps65
    go_wp2
    go_quiet (fail)
    go_wp2
    go_ret2
    exact ⟨rfl, Go.below_drewN HB.out nq⟩
  · unfold symV
    have hb := (Below.refl w.heap.size w).alloc (Nat.le_refl _) (.cells #[.string x.at_, .int .i64 x.mode, .int .i64 x.time, .string x.target] 103)
    have HB := Lib.hid hb
    clear hk h hb
    go_enter Tryd.func65, Tryd.ntmps65
    go_wp2
    go_quiet (fail)
    go_wp2
    go_ret2
    exact ⟨rfl, Go.below_drewN HB.out nq⟩
  · rw [hk] at h; cases h
theorem tgt_of {s : ByteArray} (ha : (s.data.toList.all fun c => decide (c ≠ 0)) = true) : tgt s = (!s.toList.isEmpty && decide ((s.size : Int) ≤ 200)) := by
  unfold tgt
  rw [ha, toList_isEmpty, Bool.eq_iff_iff]
  simp only [Bool.and_true, Bool.and_eq_true, decide_eq_true_eq, Bool.not_eq_true', decide_eq_false_iff_not]
  omega
theorem tgt_no {s : ByteArray} (ha : (s.data.toList.all fun c => decide (c ≠ 0)) = false) : tgt s = false := by unfold tgt; rw [ha, Bool.and_false]
theorem u8_zero (c : UInt8) : decide (c ≠ 0) = !((c.toNat : Int) == 0) := by
  rw [Bool.eq_iff_iff]
  simp only [ne_eq, decide_eq_true_eq, Bool.not_eq_true', beq_eq_false_iff_ne]
  constructor
  · intro h e
    apply h
    apply UInt8.toNat_inj.1
    show c.toNat = 0
    omega
  · rintro h rfl
    exact h rfl
set_option maxRecDepth 100000 in
set_option maxHeartbeats 400000 in
theorem target_any (s : ByteArray) (w : World) (hs : s.size ≤ 140737488355328) :
    Calls Tryd.prog 45 #[.string s] w fun e w' => e = .returned (.bool (tgt s)) ∧ Below w.heap.size w w' := by
  obtain ⟨cap, w1, hcv, hb, hz, hcell⟩ := bytes_of_string (P := Tryd.prog) w 9 46 5 s Tryd.underlying9 Tryd.underlying46 Tryd.underlying5
  have Hcell := Lib.hid hcell
  clear hcell
  go_enter Tryd.func45, Tryd.ntmps45
  go_wp2
  go_loop [8] (fun i => ∃ k : Nat, k ≤ s.size ∧ i = .int .i64 k ∧ ((s.data.toList.take k).all fun c => decide (c ≠ 0)) = true) (fun i => s.size - (intOf i).toNat)
  case atStart => exact ⟨0, Nat.zero_le _, rfl, rfl⟩
  case round =>
    obtain ⟨k, hk, rfl, hall⟩ := hrel
    have Hall := Lib.hid hall
    clear hall
    by_cases hlt : k < s.size
    · have hc := Hcell.out k hlt
      have Hf := Lib.hid fun (h : decide (s[k] ≠ 0) = false) => tgt_no (ba_all_false (p := fun c => decide (c ≠ 0)) s k hlt h)
      have Hs := Lib.hid (ba_all_snoc (p := fun c => decide (c ≠ 0)) s k hlt Hall.out)
      have hz0 := u8_zero s[k]
      generalize s[k] = c at *
      cases hq : ((c.toNat : Int) == 0) with
      | true =>
        rw [hq] at hz0
        have HZ := Lib.hid hz0
        clear hz0
        go_wp2
        go_ret
        exact ⟨ret_bool (Hf.out HZ.out).symm, hb⟩
      | false =>
        rw [hq] at hz0
        have HZ := Lib.hid hz0
        clear hz0
        go_wp2
        go_round
        case rel => exact ⟨k + 1, by omega, by go_num, Hs.out HZ.out⟩
        case measure => simp [intOf]; omega
    · obtain rfl : k = s.size := by omega
      have e := tgt_of (s := s) (by have := Hall.out; rwa [ba_take_all] at this)
      have E := Lib.hid e
      clear e
      by_cases h0 : s.toList.isEmpty = true
      · rw [h0] at E
        go_wp2
        go_ret
        exact ⟨ret_bool (by rw [E.out]; rfl), hb⟩
      · have h0' : s.toList.isEmpty = false := by simpa using h0
        rw [h0'] at E
        clear h0
        go_wp2
        go_ret
        exact ⟨ret_bool (by rw [E.out]; rfl), hb⟩
theorem blk5 {w : World} {g : Nat} {t : TypeId} {a b c d e : Value} (h : Blk w g t #[a, b, c, d, e]) : w.cell? ⟨g, 0, none⟩ = some a ∧ w.cell? ⟨g, 1, none⟩ = some b ∧ w.cell? ⟨g, 2, none⟩ = some c ∧ w.cell? ⟨g, 3, none⟩ = some d ∧ w.cell? ⟨g, 4, none⟩ = some e :=
  ⟨h.cell 0, h.cell 1, h.cell 2, h.cell 3, h.cell 4⟩
set_option maxRecDepth 100000 in
set_option maxHeartbeats 400000 in
theorem asPlain_pl (a : ByteArray) (m t z : Int) (A : Option Addr) (n c : Nat) (w : World) :
    Calls Tryd.prog 42 #[plaV a m t z A n c] w fun e w' => e = .returned (.tuple #[.agg #[.string a, .int .i64 m, .int .i64 t, .int .i64 z, .slice A n c], .bool true]) ∧ Below w.heap.size w w' := by
  have t2 := taPP
  unfold plaV
  have hk := (Blk.new w 75 #[.string a, .int .i64 m, .int .i64 t, .int .i64 z, .slice A n c]).alloc (.cells #[.string a, .int .i64 m, .int .i64 t, .int .i64 z, .slice A n c] 75)
  have hb : Below w.heap.size w ((w.alloc (.cells #[.string a, .int .i64 m, .int .i64 t, .int .i64 z, .slice A n c] 75)).alloc (.cells #[.string a, .int .i64 m, .int .i64 t, .int .i64 z, .slice A n c] 75)) := ((Below.refl _ _).alloc (Nat.le_refl _) _).alloc (by simp) _
  obtain ⟨r0, r1, r2, r3, r4⟩ := blk5 hk
  have HB := Lib.hid hb
  clear hk hb
  go_enter Tryd.func42, Tryd.ntmps42
  go_wp2
  refine bodyPost_ret (v := .tuple #[.agg #[.string a, .int .i64 m, .int .i64 t, .int .i64 z, .slice A n c], .bool true]) (by simp [results, Tryd.results42, go_sem, r0, r1, r2, r3, r4]) rfl ?_
  exact ⟨rfl, HB.out⟩
/-- a value that is no file -/
def NoPl (v : Value) : Prop := (∃ u, v = .iface 26 u) ∨ (∃ u, v = .iface 103 u) ∨ (∃ u, v = .iface 134 u) ∨ v = .nilIface
set_option maxRecDepth 100000 in
set_option maxHeartbeats 400000 in
theorem asPlain_no (v : Value) (hv : NoPl v) (w : World) :
    Calls Tryd.prog 42 #[v] w fun e w' => e = .returned (.tuple #[.agg #[.string ⟨#[]⟩, .int .i64 0, .int .i64 0, .int .i64 0, .slice none 0 0], .bool false]) ∧ Below w.heap.size w w' := by
  have t1 := taFP
  have t2 := taSP
  have t3 := taQP
  have t4 := taNP
  unfold zPla at t1 t2 t3 t4
  have hk := (Blk.new w 75 #[.string ⟨#[]⟩, .int .i64 0, .int .i64 0, .int .i64 0, .slice none 0 0]).alloc (.cells #[.string ⟨#[]⟩, .int .i64 0, .int .i64 0, .int .i64 0, .slice none 0 0] 75)
  have hb : Below w.heap.size w ((w.alloc (.cells #[.string ⟨#[]⟩, .int .i64 0, .int .i64 0, .int .i64 0, .slice none 0 0] 75)).alloc (.cells #[.string ⟨#[]⟩, .int .i64 0, .int .i64 0, .int .i64 0, .slice none 0 0] 75)) := ((Below.refl _ _).alloc (Nat.le_refl _) _).alloc (by simp) _
  obtain ⟨r0, r1, r2, r3, r4⟩ := blk5 hk
  have HB := Lib.hid hb
  clear hk hb
  rcases hv with ⟨u, rfl⟩ | ⟨u, rfl⟩ | ⟨u, rfl⟩ | rfl
  all_goals
    go_enter Tryd.func42, Tryd.ntmps42
    go_wp2
    refine bodyPost_ret (v := .tuple #[.agg #[.string ⟨#[]⟩, .int .i64 0, .int .i64 0, .int .i64 0, .slice none 0 0], .bool false]) (by simp [results, Tryd.results42, go_sem, r0, r1, r2, r3, r4]) rfl ?_
    exact ⟨rfl, HB.out⟩
theorem pis_big (s : ByteArray) (w : World) (he : Env w) (hs : s.size ≤ 140737488355328) : Calls Tryd.prog 15 #[.string s] w fun e w' => e = .returned (.bool (isPath s)) ∧ Below w.heap.size w w' := by
  by_cases h : s.size ≤ 1099511627776
  · exact pis_any s w he h
  · have HN := Lib.hid (show isPath s = false by unfold isPath; rw [decide_eq_false (show ¬ s.size ≤ 200 by omega)]; simp)
    have h60 : (200 : Int) < (s.size : Int) := by omega
    have HB0 := Lib.hid ((Below.refl w.heap.size w).alloc (Nat.le_refl _) (.cells #[.bool false] 4))
    go_enter Tryd.func15, Tryd.ntmps15
    go_wp2
    have r0 : (w.alloc (.cells #[.bool false] 4)).cell? ⟨w.heap.size, 0, none⟩ = some (.bool false) := (Blk.new w 4 #[.bool false]).cell 0
    refine bodyPost_ret (v := .bool false) (by simp [results, Tryd.results15, go_sem, r0]) rfl ?_
    exact ⟨ret_bool HN.out.symm, HB0.out⟩
/-- a node's method by its type -/
theorem mFol (n : Nat) (u : Value) (w : World) : (Go.method (n + 1) 26 u "Path").run Tryd.prog w = .ok (176, u) w := by kernel_rfl
theorem mPla (n : Nat) (u : Value) (w : World) : (Go.method (n + 1) 75 u "Path").run Tryd.prog w = .ok (178, u) w := by kernel_rfl
theorem mSym (n : Nat) (u : Value) (w : World) : (Go.method (n + 1) 103 u "Path").run Tryd.prog w = .ok (179, u) w := by kernel_rfl
theorem pathF (a : ByteArray) (m t : Int) (w : World) : Calls Tryd.prog 176 #[.agg #[.string a, .int .i64 m, .int .i64 t]] w fun e w' => e = .returned (.string a) ∧ Below w.heap.size w w' := by
  have hb := (Below.refl w.heap.size w).alloc (Nat.le_refl _) (.cells #[.string a, .int .i64 m, .int .i64 t] 26)
  go_enter Tryd.func176, Tryd.ntmps176
  go_wp2
  go_ret
  exact ⟨rfl, hb⟩
theorem pathP (a : ByteArray) (m t z : Int) (A : Option Addr) (n c : Nat) (w : World) : Calls Tryd.prog 178 #[.agg #[.string a, .int .i64 m, .int .i64 t, .int .i64 z, .slice A n c]] w fun e w' => e = .returned (.string a) ∧ Below w.heap.size w w' := by
  have hb := (Below.refl w.heap.size w).alloc (Nat.le_refl _) (.cells #[.string a, .int .i64 m, .int .i64 t, .int .i64 z, .slice A n c] 75)
  go_enter Tryd.func178, Tryd.ntmps178
  go_wp2
  go_ret
  exact ⟨rfl, hb⟩
theorem pathS (a : ByteArray) (m t : Int) (g : ByteArray) (w : World) : Calls Tryd.prog 179 #[.agg #[.string a, .int .i64 m, .int .i64 t, .string g]] w fun e w' => e = .returned (.string a) ∧ Below w.heap.size w w' := by
  have hb := (Below.refl w.heap.size w).alloc (Nat.le_refl _) (.cells #[.string a, .int .i64 m, .int .i64 t, .string g] 103)
  go_enter Tryd.func179, Tryd.ntmps179
  go_wp2
  go_ret
  exact ⟨rfl, hb⟩
end Go.Proofs.YtaoejgnfoecpfaaDoor
