/- A tree's nodes as bytes: the plain law. -/
import Derived.Test.YtaoejgnfoecpfaaDoorBs
namespace Go.Proofs.YtaoejgnfoecpfaaDoor
open Go.RowKit

/-- a node's record -/
structure Nr where
  kind : Int
  at_ : ByteArray
  mode : Int
  time : Int
  size : Int
  chunks : List ByteArray
  target : ByteArray
deriving DecidableEq
def noB : ByteArray := ⟨#[]⟩
/-- the chunks' bytes, one behind the other -/
def catN (l : List ByteArray) : List UInt8 := (l.map fun c => c.data.toList).flatten
def tailN (x : Nr) : List UInt8 := if x.kind = 2 then varL x.size.toNat ++ varL x.chunks.length ++ catN x.chunks else if x.kind = 3 then textL x.target else []
theorem tailN_1 {x : Nr} (h : x.kind = 1) : tailN x = [] := by unfold tailN; rw [if_neg (by omega), if_neg (by omega)]
theorem tailN_2 {x : Nr} (h : x.kind = 2) : tailN x = varL x.size.toNat ++ varL x.chunks.length ++ catN x.chunks := by unfold tailN; rw [if_pos h]
theorem tailN_3 {x : Nr} (h : x.kind = 3) : tailN x = textL x.target := by unfold tailN; rw [if_neg (by omega), if_pos h]
def txtN (x : Nr) : List UInt8 := varL x.kind.toNat ++ textL x.at_ ++ varL x.mode.toNat ++ varL x.time.toNat ++ tailN x
def bodyN (l : List Nr) : List UInt8 := (l.map txtN).flatten
def encN (l : List Nr) : List UInt8 := varL l.length ++ bodyN l
/-- a number from the front; an error's number is carried along -/
def numE (s : ByteArray) (e : Nat) : Nat × ByteArray × Nat :=
  if e ≠ 0 then (0, s, e) else if (unvarL s.data.toList).2 = 0 ∨ 1099511627776 < (unvarL s.data.toList).1 then (0, s, 3) else ((unvarL s.data.toList).1, s.extract (unvarL s.data.toList).2 s.size, 0)
def takE (s : ByteArray) (e n : Nat) : ByteArray × ByteArray × Nat :=
  if e ≠ 0 then (noB, s, e) else if s.size < n then (noB, s, 6) else (s.extract 0 n, s.extract n s.size, 0)
def chE : Nat → ByteArray → Nat → List ByteArray × ByteArray × Nat
  | 0, s, e => ([], s, e)
  | n + 1, s, e => if e ≠ 0 then ([], s, e) else ((takE s e 32).1 :: (chE n (takE s e 32).2.1 (takE s e 32).2.2).1, (chE n (takE s e 32).2.1 (takE s e 32).2.2).2)
def failE (e c : Nat) : Nat := if e = 0 then c else e
/-- what stands behind the four first -/
def restE (k : Nat) (a : ByteArray) (m t : Nat) (s : ByteArray) (e : Nat) : Nr × ByteArray × Nat :=
  if k = 2 then (⟨2, a, m, t, (numE s e).1, (chE (numE (numE s e).2.1 (numE s e).2.2).1 (numE (numE s e).2.1 (numE s e).2.2).2.1 (numE (numE s e).2.1 (numE s e).2.2).2.2).1, noB⟩, (chE (numE (numE s e).2.1 (numE s e).2.2).1 (numE (numE s e).2.1 (numE s e).2.2).2.1 (numE (numE s e).2.1 (numE s e).2.2).2.2).2)
  else if k = 3 then (⟨3, a, m, t, 0, [], (takE (numE s e).2.1 (numE s e).2.2 (numE s e).1).1⟩, (takE (numE s e).2.1 (numE s e).2.2 (numE s e).1).2)
  else (⟨k, a, m, t, 0, [], noB⟩, s, if k = 1 then e else failE e 3)
def nodeE (s : ByteArray) (e : Nat) : Nr × ByteArray × Nat :=
  restE (numE s e).1 (takE (numE (numE s e).2.1 (numE s e).2.2).2.1 (numE (numE s e).2.1 (numE s e).2.2).2.2 (numE (numE s e).2.1 (numE s e).2.2).1).1
    (numE (takE (numE (numE s e).2.1 (numE s e).2.2).2.1 (numE (numE s e).2.1 (numE s e).2.2).2.2 (numE (numE s e).2.1 (numE s e).2.2).1).2.1 (takE (numE (numE s e).2.1 (numE s e).2.2).2.1 (numE (numE s e).2.1 (numE s e).2.2).2.2 (numE (numE s e).2.1 (numE s e).2.2).1).2.2).1
    (numE (numE (takE (numE (numE s e).2.1 (numE s e).2.2).2.1 (numE (numE s e).2.1 (numE s e).2.2).2.2 (numE (numE s e).2.1 (numE s e).2.2).1).2.1 (takE (numE (numE s e).2.1 (numE s e).2.2).2.1 (numE (numE s e).2.1 (numE s e).2.2).2.2 (numE (numE s e).2.1 (numE s e).2.2).1).2.2).2.1 (numE (takE (numE (numE s e).2.1 (numE s e).2.2).2.1 (numE (numE s e).2.1 (numE s e).2.2).2.2 (numE (numE s e).2.1 (numE s e).2.2).1).2.1 (takE (numE (numE s e).2.1 (numE s e).2.2).2.1 (numE (numE s e).2.1 (numE s e).2.2).2.2 (numE (numE s e).2.1 (numE s e).2.2).1).2.2).2.2).1
    (numE (numE (takE (numE (numE s e).2.1 (numE s e).2.2).2.1 (numE (numE s e).2.1 (numE s e).2.2).2.2 (numE (numE s e).2.1 (numE s e).2.2).1).2.1 (takE (numE (numE s e).2.1 (numE s e).2.2).2.1 (numE (numE s e).2.1 (numE s e).2.2).2.2 (numE (numE s e).2.1 (numE s e).2.2).1).2.2).2.1 (numE (takE (numE (numE s e).2.1 (numE s e).2.2).2.1 (numE (numE s e).2.1 (numE s e).2.2).2.2 (numE (numE s e).2.1 (numE s e).2.2).1).2.1 (takE (numE (numE s e).2.1 (numE s e).2.2).2.1 (numE (numE s e).2.1 (numE s e).2.2).2.2 (numE (numE s e).2.1 (numE s e).2.2).1).2.2).2.2).2.1
    (numE (numE (takE (numE (numE s e).2.1 (numE s e).2.2).2.1 (numE (numE s e).2.1 (numE s e).2.2).2.2 (numE (numE s e).2.1 (numE s e).2.2).1).2.1 (takE (numE (numE s e).2.1 (numE s e).2.2).2.1 (numE (numE s e).2.1 (numE s e).2.2).2.2 (numE (numE s e).2.1 (numE s e).2.2).1).2.2).2.1 (numE (takE (numE (numE s e).2.1 (numE s e).2.2).2.1 (numE (numE s e).2.1 (numE s e).2.2).2.2 (numE (numE s e).2.1 (numE s e).2.2).1).2.1 (takE (numE (numE s e).2.1 (numE s e).2.2).2.1 (numE (numE s e).2.1 (numE s e).2.2).2.2 (numE (numE s e).2.1 (numE s e).2.2).1).2.2).2.2).2.2
/-- the reading as a chain: each step's outcome named -/
theorem nodeE_of {s s1 s2 s3 s4 s5 : ByteArray} {e e1 e2 e3 e4 e5 k n m t : Nat} {a : ByteArray} (h1 : numE s e = (k, s1, e1)) (h2 : numE s1 e1 = (n, s2, e2)) (h3 : takE s2 e2 n = (a, s3, e3)) (h4 : numE s3 e3 = (m, s4, e4)) (h5 : numE s4 e4 = (t, s5, e5)) : nodeE s e = restE k a m t s5 e5 := by
  unfold nodeE
  simp only [h1, h2, h3, h4, h5]
theorem restE_one {k : Nat} (hk : k = 1) (a : ByteArray) (m t : Nat) (s : ByteArray) (e : Nat) : restE k a m t s e = (⟨k, a, m, t, 0, [], noB⟩, s, e) := by
  unfold restE; rw [if_neg (by omega), if_neg (by omega), if_pos hk]
theorem restE_two {s s1 s2 s3 : ByteArray} {e e1 e2 e3 z c m t : Nat} {a : ByteArray} {l : List ByteArray} (h1 : numE s e = (z, s1, e1)) (h2 : numE s1 e1 = (c, s2, e2)) (h3 : chE c s2 e2 = (l, s3, e3)) : restE 2 a m t s e = (⟨2, a, m, t, z, l, noB⟩, s3, e3) := by
  unfold restE
  rw [if_pos rfl]
  simp only [h1, h2, h3]
theorem restE_three {s s1 s2 : ByteArray} {e e1 e2 n m t : Nat} {a g : ByteArray} (h1 : numE s e = (n, s1, e1)) (h2 : takE s1 e1 n = (g, s2, e2)) : restE 3 a m t s e = (⟨3, a, m, t, 0, [], g⟩, s2, e2) := by
  unfold restE
  rw [if_neg (by decide), if_pos rfl]
  simp only [h1, h2]
theorem restE_no {k : Nat} (h1 : k ≠ 1) (h2 : k ≠ 2) (h3 : k ≠ 3) (a : ByteArray) (m t : Nat) (s : ByteArray) (e : Nat) : restE k a m t s e = (⟨k, a, m, t, 0, [], noB⟩, s, failE e 3) := by
  unfold restE; rw [if_neg h2, if_neg h3, if_neg h1]
theorem numE_bad {e : Nat} (h : e ≠ 0) (s : ByteArray) : numE s e = (0, s, e) := if_pos h
theorem takE_bad {e : Nat} (h : e ≠ 0) (s : ByteArray) (n : Nat) : takE s e n = (noB, s, e) := if_pos h
theorem chE_bad {e : Nat} (h : e ≠ 0) (s : ByteArray) (n : Nat) : chE n s e = ([], s, e) := by
  cases n with
  | zero => rfl
  | succ n => simp only [chE]; rw [if_pos h]
theorem numE_le (s : ByteArray) (e : Nat) : (numE s e).1 ≤ 1099511627776 ∧ (numE s e).2.1.size ≤ s.size := by
  unfold numE
  split
  · exact ⟨Nat.zero_le _, Nat.le_refl _⟩
  · split
    · exact ⟨Nat.zero_le _, Nat.le_refl _⟩
    · exact ⟨by simp only; omega, by simp only [ByteArray.size_extract]; omega⟩
theorem takE_le (s : ByteArray) (e n : Nat) : (takE s e n).1.size ≤ s.size ∧ (takE s e n).2.1.size ≤ s.size := by
  unfold takE
  split
  · exact ⟨Nat.zero_le _, Nat.le_refl _⟩
  · split
    · exact ⟨Nat.zero_le _, Nat.le_refl _⟩
    · exact ⟨by simp only [ByteArray.size_extract]; omega, by simp only [ByteArray.size_extract]; omega⟩
theorem numE_var (x : Nat) (r : List UInt8) (h : x ≤ 1099511627776) : numE (bs (varL x ++ r)) 0 = (x, bs r, 0) := by
  have hu := unvar_var x r (by omega)
  have hl : 1 ≤ (varL x).length := (varF_len 10 x).1
  unfold numE
  rw [bs_list, hu]
  simp only
  rw [if_neg (by decide), if_neg (by omega), bs_drop, List.drop_left]
theorem takE_app (t r : List UInt8) : takE (bs (t ++ r)) 0 t.length = (bs t, bs r, 0) := by
  unfold takE
  rw [if_neg (by decide), if_neg (by rw [bs_size, List.length_append]; omega), bs_take, bs_drop, List.take_left, List.drop_left]
theorem takE_text (t : ByteArray) (r : List UInt8) : takE (bs (t.data.toList ++ r)) 0 t.size = (t, bs r, 0) := by
  have := takE_app t.data.toList r
  rwa [ba_len, bs_self] at this
theorem chE_cat : ∀ (l : List ByteArray) (r : List UInt8), (∀ c ∈ l, c.size = 32) → chE l.length (bs (catN l ++ r)) 0 = (l, bs r, 0)
  | [], _, _ => rfl
  | c :: l, r, h => by
    have ht := takE_text c (catN l ++ r)
    rw [h c (by simp)] at ht
    have e : catN (c :: l) ++ r = c.data.toList ++ (catN l ++ r) := by simp [catN]
    rw [e]
    simp only [List.length_cons, chE]
    rw [ht]
    simp only [ne_eq, not_true, if_false]
    rw [chE_cat l r (fun x hx => h x (by simp [hx]))]
/-- a record whose fields fit, and that bears no others than its kind's -/
structure NrFit (x : Nr) : Prop where
  k1 : 1 ≤ x.kind ∧ x.kind ≤ 3
  at_ : x.at_.size ≤ 1099511627776
  mode : 0 ≤ x.mode ∧ x.mode ≤ 1099511627776
  time : 0 ≤ x.time ∧ x.time ≤ 1099511627776
  two : x.kind = 2 → (0 ≤ x.size ∧ x.size ≤ 1099511627776) ∧ x.chunks.length ≤ 1099511627776 ∧ ∀ c ∈ x.chunks, c.size = 32
  no2 : x.kind ≠ 2 → x.size = 0 ∧ x.chunks = []
  three : x.kind = 3 → x.target.size ≤ 1099511627776
  no3 : x.kind ≠ 3 → x.target = noB
theorem nodeE_text {x : Nr} (h : NrFit x) (r : List UInt8) : nodeE (bs (txtN x ++ r)) 0 = (x, bs r, 0) := by
  obtain ⟨kind, a, mode, time, size, chunks, target⟩ := x
  obtain ⟨⟨k1, k2⟩, ha, ⟨m1, m2⟩, ⟨t1, t2⟩, h2, hn2, h3, hn3⟩ := h
  simp only at *
  obtain ⟨k, rfl⟩ : ∃ k : Nat, kind = k := ⟨kind.toNat, by omega⟩
  obtain ⟨m, rfl⟩ : ∃ k : Nat, mode = k := ⟨mode.toNat, by omega⟩
  obtain ⟨t, rfl⟩ : ∃ k : Nat, time = k := ⟨time.toNat, by omega⟩
  have e0 : ∀ y : List UInt8, txtN ⟨k, a, m, t, size, chunks, target⟩ ++ y = varL k ++ (varL a.size ++ (a.data.toList ++ (varL m ++ (varL t ++ (tailN ⟨k, a, m, t, size, chunks, target⟩ ++ y))))) := by
    intro y
    unfold txtN textL
    simp only [List.append_assoc]
    rfl
  rw [e0]
  rw [nodeE_of (numE_var k _ (by omega)) (numE_var a.size _ ha) (takE_text a _) (numE_var m _ (by omega)) (numE_var t _ (by omega))]
  rcases (by omega : k = 1 ∨ k = 2 ∨ k = 3) with rfl | rfl | rfl
  · obtain ⟨rfl, rfl⟩ := hn2 (by decide)
    obtain rfl := hn3 (by decide)
    rw [restE_one rfl]
    rw [tailN_1 rfl]
    rfl
  · obtain ⟨⟨z1, z2⟩, hl, hc⟩ := h2 rfl
    obtain rfl := hn3 (by decide)
    obtain ⟨z, rfl⟩ : ∃ k : Nat, size = k := ⟨size.toNat, by omega⟩
    have : tailN ⟨((2 : Nat) : Int), a, m, t, z, chunks, noB⟩ ++ r = varL z ++ (varL chunks.length ++ (catN chunks ++ r)) := by
      rw [tailN_2 rfl]
      simp only [List.append_assoc]
      rfl
    rw [this, restE_two (numE_var z _ (by omega)) (numE_var chunks.length _ hl) (chE_cat chunks r hc)]
    rfl
  · obtain ⟨rfl, rfl⟩ := hn2 (by decide)
    have : tailN ⟨((3 : Nat) : Int), a, m, t, 0, [], target⟩ ++ r = varL target.size ++ (target.data.toList ++ r) := by
      rw [tailN_3 rfl]
      unfold textL
      simp only [List.append_assoc]
    rw [this, restE_three (numE_var target.size _ (h3 rfl)) (takE_text target r)]
    rfl
/-- so many nodes -/
def nodesE : Nat → ByteArray → Nat → List Nr × ByteArray × Nat
  | 0, s, e => ([], s, e)
  | n + 1, s, e => if e ≠ 0 then ([], s, e) else ((nodeE s e).1 :: (nodesE n (nodeE s e).2.1 (nodeE s e).2.2).1, (nodesE n (nodeE s e).2.1 (nodeE s e).2.2).2)
theorem nodesE_body : ∀ (l : List Nr) (r : List UInt8), (∀ x ∈ l, NrFit x) → nodesE l.length (bs (bodyN l ++ r)) 0 = (l, bs r, 0)
  | [], _, _ => rfl
  | x :: l, r, h => by
    have e : bodyN (x :: l) ++ r = txtN x ++ (bodyN l ++ r) := by simp [bodyN]
    rw [e]
    simp only [List.length_cons, nodesE]
    rw [nodeE_text (h x (by simp))]
    simp only [ne_eq, not_true, if_false]
    rw [nodesE_body l r (fun y hy => h y (by simp [hy]))]
/-- what was read is written as it was -/
theorem numE_back {s r : ByteArray} {e x : Nat} (h : numE s e = (x, r, 0)) : e = 0 ∧ s.data.toList = varL x ++ r.data.toList ∧ x ≤ 1099511627776 := by
  unfold numE at h
  split at h
  · next he => simp only [Prod.mk.injEq] at h; exact absurd h.2.2 he
  · next he =>
    split at h
    · simp at h
    · next hc =>
      simp only [Prod.mk.injEq] at h
      obtain ⟨rfl, rfl, _⟩ := h
      have hb := unvar_back (l := s.data.toList) (x := (unvarL s.data.toList).1) (n := (unvarL s.data.toList).2) rfl (fun e => hc (Or.inl e))
      refine ⟨by omega, ?_, by omega⟩
      rw [ext_drop, ← hb.2.2.1, List.take_append_drop]
theorem takE_back {s t r : ByteArray} {e n : Nat} (h : takE s e n = (t, r, 0)) : e = 0 ∧ s.data.toList = t.data.toList ++ r.data.toList ∧ t.size = n := by
  unfold takE at h
  split at h
  · next he => simp only [Prod.mk.injEq] at h; exact absurd h.2.2 he
  · next he =>
    split at h
    · simp at h
    · simp only [Prod.mk.injEq] at h
      obtain ⟨rfl, rfl, _⟩ := h
      refine ⟨by omega, ?_, ?_⟩
      · rw [ext_drop, ext_take, List.take_append_drop]
      · simp only [ByteArray.size_extract]; omega
theorem chE_back : ∀ (n : Nat) {s r : ByteArray} {e : Nat} {l : List ByteArray}, chE n s e = (l, r, 0) → e = 0 ∧ s.data.toList = catN l ++ r.data.toList ∧ l.length = n ∧ ∀ c ∈ l, c.size = 32
  | 0, s, r, e, l, h => by
    simp only [chE, Prod.mk.injEq] at h
    obtain ⟨rfl, rfl, rfl⟩ := h
    exact ⟨rfl, rfl, rfl, fun _ h => by cases h⟩
  | n + 1, s, r, e, l, h => by
    by_cases he : e = 0
    · subst he
      rcases ht : takE s 0 32 with ⟨t, s2, e2⟩
      rcases hl : chE n s2 e2 with ⟨l', r', e'⟩
      simp only [chE, ht, hl, ne_eq, not_true, if_false, Prod.mk.injEq] at h
      obtain ⟨rfl, rfl, rfl⟩ := h
      obtain ⟨rfl, h2, h3, h5⟩ := chE_back n hl
      obtain ⟨_, h4, h6⟩ := takE_back ht
      refine ⟨rfl, ?_, by simp [h3], fun c hc => ?_⟩
      · rw [h4, h2]; simp [catN]
      · rcases List.mem_cons.1 hc with rfl | hc
        · exact h6
        · exact h5 c hc
    · rw [chE_bad he] at h
      simp only [Prod.mk.injEq] at h
      exact absurd h.2.2 he
theorem nodeE_back {s r : ByteArray} {e : Nat} {x : Nr} (h : nodeE s e = (x, r, 0)) (hs : s.size ≤ 1099511627776) : e = 0 ∧ s.data.toList = txtN x ++ r.data.toList ∧ NrFit x := by
  rcases h1 : numE s e with ⟨k, s1, e1⟩
  rcases h2 : numE s1 e1 with ⟨n, s2, e2⟩
  rcases h3 : takE s2 e2 n with ⟨a, s3, e3⟩
  rcases h4 : numE s3 e3 with ⟨m, s4, e4⟩
  rcases h5 : numE s4 e4 with ⟨t, s5, e5⟩
  rw [nodeE_of h1 h2 h3 h4 h5] at h
  have key : e5 = 0 → e = 0 ∧ s.data.toList = varL k ++ (varL a.size ++ (a.data.toList ++ (varL m ++ (varL t ++ s5.data.toList)))) ∧ a.size ≤ 1099511627776 ∧ m ≤ 1099511627776 ∧ t ≤ 1099511627776 ∧ s5.size ≤ 1099511627776 := by
    rintro rfl
    obtain ⟨rfl, a5, b5⟩ := numE_back h5
    obtain ⟨rfl, a4, b4⟩ := numE_back h4
    obtain ⟨rfl, a3, b3⟩ := takE_back h3
    obtain ⟨rfl, a2, b2⟩ := numE_back h2
    obtain ⟨rfl, a1, b1⟩ := numE_back h1
    have z1 := (numE_le s 0).2
    have z2 := (numE_le s1 0).2
    have z3 := (takE_le s2 0 n).2
    have z4 := (numE_le s3 0).2
    have z5 := (numE_le s4 0).2
    rw [h1] at z1
    rw [h2] at z2
    rw [h3] at z3
    rw [h4] at z4
    rw [h5] at z5
    simp only at z1 z2 z3 z4 z5
    exact ⟨rfl, by rw [a1, a2, a3, a4, a5, b3], by omega, b4, b5, by omega⟩
  by_cases k2 : k = 2
  · subst k2
    rcases h6 : numE s5 e5 with ⟨z, s6, e6⟩
    rcases h7 : numE s6 e6 with ⟨c, s7, e7⟩
    rcases h8 : chE c s7 e7 with ⟨l, s8, e8⟩
    rw [restE_two h6 h7 h8] at h
    simp only [Prod.mk.injEq] at h
    obtain ⟨rfl, rfl, rfl⟩ := h
    obtain ⟨rfl, a8, b8, c8⟩ := chE_back _ h8
    obtain ⟨rfl, a7, b7⟩ := numE_back h7
    obtain ⟨rfl, a6, b6⟩ := numE_back h6
    obtain ⟨rfl, ha, q1, q2, q3, _⟩ := key rfl
    refine ⟨rfl, ?_, ⟨by simp only; omega, by simp only; omega⟩, q1, ⟨by simp only; omega, by simp only; omega⟩, ⟨by simp only; omega, by simp only; omega⟩, fun _ => ⟨⟨by simp only; omega, by simp only; omega⟩, by simp only; omega, c8⟩, (fun h => absurd rfl h), (fun h => absurd h (by simp)), fun _ => rfl⟩
    rw [ha, a6, a7, a8]
    unfold txtN textL
    rw [tailN_2 rfl]
    simp only [List.append_assoc, b8]
    rfl
  · by_cases k3 : k = 3
    · subst k3
      rcases h6 : numE s5 e5 with ⟨c, s6, e6⟩
      rcases h7 : takE s6 e6 c with ⟨g, s7, e7⟩
      rw [restE_three h6 h7] at h
      simp only [Prod.mk.injEq] at h
      obtain ⟨rfl, rfl, rfl⟩ := h
      obtain ⟨rfl, a7, b7⟩ := takE_back h7
      obtain ⟨rfl, a6, b6⟩ := numE_back h6
      obtain ⟨rfl, ha, q1, q2, q3, _⟩ := key rfl
      refine ⟨rfl, ?_, ⟨by simp only; omega, by simp only; omega⟩, q1, ⟨by simp only; omega, by simp only; omega⟩, ⟨by simp only; omega, by simp only; omega⟩, (fun h => absurd h (by simp)), (fun _ => ⟨rfl, rfl⟩), (fun _ => by simp only; omega), (fun h => absurd rfl h)⟩
      rw [ha, a6, a7]
      unfold txtN
      rw [tailN_3 rfl]
      unfold textL
      simp only [List.append_assoc, b7]
      rfl
    · by_cases k1 : k = 1
      · subst k1
        rw [restE_one rfl] at h
        simp only [Prod.mk.injEq] at h
        obtain ⟨rfl, rfl, rfl⟩ := h
        obtain ⟨rfl, ha, q1, q2, q3, _⟩ := key rfl
        refine ⟨rfl, ?_, ⟨by simp only; omega, by simp only; omega⟩, q1, ⟨by simp only; omega, by simp only; omega⟩, ⟨by simp only; omega, by simp only; omega⟩, (fun h => absurd h (by simp)), (fun _ => ⟨rfl, rfl⟩), (fun h => absurd h (by simp)), fun _ => rfl⟩
        rw [ha]
        unfold txtN textL
        rw [tailN_1 rfl]
        simp only [List.append_assoc, List.append_nil]
        rfl
      · rw [restE_no k1 k2 k3] at h
        simp only [Prod.mk.injEq] at h
        have := h.2.2
        unfold failE at this
        split at this <;> omega
theorem nodesE_bad {e : Nat} (h : e ≠ 0) (s : ByteArray) (n : Nat) : nodesE n s e = ([], s, e) := by
  cases n with
  | zero => rfl
  | succ n => simp only [nodesE]; rw [if_pos h]
theorem nodeE_size (s : ByteArray) (e : Nat) : (nodeE s e).2.1.size ≤ s.size := by
  rcases h1 : numE s e with ⟨k, s1, e1⟩
  rcases h2 : numE s1 e1 with ⟨n, s2, e2⟩
  rcases h3 : takE s2 e2 n with ⟨a, s3, e3⟩
  rcases h4 : numE s3 e3 with ⟨m, s4, e4⟩
  rcases h5 : numE s4 e4 with ⟨t, s5, e5⟩
  have z1 := (numE_le s e).2
  have z2 := (numE_le s1 e1).2
  have z3 := (takE_le s2 e2 n).2
  have z4 := (numE_le s3 e3).2
  have z5 := (numE_le s4 e4).2
  rw [h1] at z1
  rw [h2] at z2
  rw [h3] at z3
  rw [h4] at z4
  rw [h5] at z5
  simp only at z1 z2 z3 z4 z5
  have hch : ∀ (n : Nat) (s : ByteArray) (e : Nat), (chE n s e).2.1.size ≤ s.size := by
    intro n
    induction n with
    | zero => intro s e; exact Nat.le_refl _
    | succ n ih =>
      intro s e
      simp only [chE]
      split
      · exact Nat.le_refl _
      · exact Nat.le_trans (ih _ _) (takE_le s e 32).2
  rw [nodeE_of h1 h2 h3 h4 h5]
  unfold restE
  split
  · exact Nat.le_trans (hch _ _ _) (Nat.le_trans (numE_le _ _).2 (Nat.le_trans (numE_le _ _).2 (by omega)))
  · split
    · exact Nat.le_trans (takE_le _ _ _).2 (Nat.le_trans (numE_le _ _).2 (by omega))
    · simp only; omega
theorem nodesE_back : ∀ (n : Nat) {s r : ByteArray} {e : Nat} {l : List Nr}, nodesE n s e = (l, r, 0) → s.size ≤ 1099511627776 → e = 0 ∧ s.data.toList = bodyN l ++ r.data.toList ∧ l.length = n ∧ ∀ x ∈ l, NrFit x
  | 0, s, r, e, l, h, _ => by
    simp only [nodesE, Prod.mk.injEq] at h
    obtain ⟨rfl, rfl, rfl⟩ := h
    exact ⟨rfl, rfl, rfl, fun _ h => by cases h⟩
  | n + 1, s, r, e, l, h, hs => by
    by_cases he : e = 0
    · subst he
      rcases ht : nodeE s 0 with ⟨t, s2, e2⟩
      rcases hl : nodesE n s2 e2 with ⟨l', r', e'⟩
      simp only [nodesE, ht, hl, ne_eq, not_true, if_false, Prod.mk.injEq] at h
      obtain ⟨rfl, rfl, rfl⟩ := h
      have hz := nodeE_size s 0
      rw [ht] at hz
      obtain ⟨rfl, h2, h3, h5⟩ := nodesE_back n hl (Nat.le_trans hz hs)
      obtain ⟨_, h4, h6⟩ := nodeE_back ht hs
      refine ⟨rfl, ?_, by simp [h3], fun c hc => ?_⟩
      · rw [h4, h2]; simp [bodyN]
      · rcases List.mem_cons.1 hc with rfl | hc
        · exact h6
        · exact h5 c hc
    · rw [nodesE_bad he] at h
      simp only [Prod.mk.injEq] at h
      exact absurd h.2.2 he
end Go.Proofs.YtaoejgnfoecpfaaDoor
