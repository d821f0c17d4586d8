/- A tree's nodes: their form, what is read, what is written: the plain law. -/
import Derived.Test.YtaoejgnfoecpfaaDoorNp
import Derived.Test.YtaoejgnfoecpfaaDoorRs
namespace Go.Proofs.YtaoejgnfoecpfaaDoor
open Go.RowKit

/-- may a link lead there? -/
def tgt (s : ByteArray) : Bool := decide (1 ≤ s.size) && decide (s.size ≤ 200) && s.data.toList.all fun c => decide (c ≠ 0)
/-- a file's size and chunks -/
def fileOk (x : Nr) : Bool := decide (0 ≤ x.size) && decide (x.size ≤ 32768) && decide ((x.chunks.length : Int) ≤ x.size) && !(decide (0 < x.size) && decide (x.chunks.length = 0)) && x.chunks.all fun c => decide (c.size = 32)
def formOk (x : Nr) : Bool := decide (0 ≤ x.mode) && decide (x.mode ≤ 511) && decide (0 ≤ x.time) && decide (x.time ≤ 253402300799) && (!decide (x.kind = 3) || tgt x.target) && (!decide (x.kind = 2) || fileOk x)
def kindOk (x : Nr) : Bool := decide (1 ≤ x.kind) && decide (x.kind ≤ 3)
/-- a node's error by itself -/
def fitN (x : Nr) : Nat := if kindOk x = false then 12 else if isPath x.at_ = false then 11 else if formOk x = false then 4 else 0
/-- is the folder of a path among these? -/
def thereN (pre : List Nr) (p : ByteArray) : Bool := decide (p.size = 0) || pre.any fun m => decide (m.kind = 1) && decide (m.at_ = p)
/-- the error of a node behind others -/
def stepN (pre : List Nr) (x : Nr) : Nat :=
  if fitN x ≠ 0 then fitN x else if (match pre.getLast? with | some y => decide (cmpL (partsP y.at_) (partsP x.at_) ≠ -1) | none => false) = true then 4 else if thereN pre (parentP x.at_) = false then 7 else 0
def goN : List Nr → List Nr → Nat
  | _, [] => 0
  | pre, x :: r => if stepN pre x ≠ 0 then stepN pre x else goN (pre ++ [x]) r
def chkN (l : List Nr) : Nat := if 200 < l.length then 2 else goN [] l
theorem fit_parts {x : Nr} (h : fitN x = 0) : kindOk x = true ∧ isPath x.at_ = true ∧ formOk x = true := by
  unfold fitN at h
  split at h
  · cases h
  · split at h
    · cases h
    · split at h
      · cases h
      · refine ⟨?_, ?_, ?_⟩ <;> simp_all
theorem path_size {s : ByteArray} (h : isPath s = true) : s.size ≤ 200 := by
  unfold isPath at h
  simp only [Bool.and_eq_true, decide_eq_true_eq] at h
  exact h.1.1
/-- a record that bears nothing but its kind's -/
def PureN (x : Nr) : Prop := (x.kind ≠ 2 → x.size = 0 ∧ x.chunks = []) ∧ (x.kind ≠ 3 → x.target = noB)
theorem fit_nr {x : Nr} (h : fitN x = 0) (hp : PureN x) : NrFit x := by
  obtain ⟨h1, h2, h3⟩ := fit_parts h
  unfold kindOk at h1
  unfold formOk at h3
  simp only [Bool.and_eq_true, decide_eq_true_eq] at h1 h3
  obtain ⟨⟨⟨⟨⟨m1, m2⟩, t1⟩, t2⟩, h4⟩, h5⟩ := h3
  refine ⟨h1, Nat.le_trans (path_size h2) (by decide), ⟨m1, by omega⟩, ⟨t1, by omega⟩, fun hk => ?_, hp.1, fun hk => ?_, hp.2⟩
  · rw [hk] at h5
    simp only [decide_true, Bool.not_true, Bool.false_or] at h5
    unfold fileOk at h5
    simp only [Bool.and_eq_true, decide_eq_true_eq, List.all_eq_true] at h5
    obtain ⟨⟨⟨⟨z1, z2⟩, z3⟩, _⟩, z4⟩ := h5
    exact ⟨⟨z1, by omega⟩, by omega, z4⟩
  · rw [hk] at h4
    simp only [decide_true, Bool.not_true, Bool.false_or] at h4
    unfold tgt at h4
    simp only [Bool.and_eq_true, decide_eq_true_eq] at h4
    omega
theorem go_fit : ∀ (l pre : List Nr), goN pre l = 0 → ∀ x ∈ l, fitN x = 0
  | [], _, _, x, hx => by cases hx
  | y :: r, pre, h, x, hx => by
    simp only [goN] at h
    split at h
    · next hs => exact absurd h hs
    · next hs =>
      have hs : stepN pre y = 0 := by omega
      rcases List.mem_cons.1 hx with rfl | hx
      · unfold stepN at hs
        split at hs
        · next h1 => exact absurd hs h1
        · next h1 => omega
      · exact go_fit r _ h x hx
theorem chk_fit {l : List Nr} (h : chkN l = 0) : l.length ≤ 200 ∧ ∀ x ∈ l, fitN x = 0 := by
  unfold chkN at h
  split at h
  · cases h
  · exact ⟨by omega, go_fit l [] h⟩
/-- what a decoder gives -/
def endN (l : List Nr) (s : ByteArray) (e : Nat) : List Nr × Nat := if e ≠ 0 then ([], e) else if s.size ≠ 0 then ([], 3) else if chkN l ≠ 0 then ([], chkN l) else (l, 0)
def decN (s : ByteArray) : List Nr × Nat :=
  if (numE s 0).2.2 = 0 ∧ 200 < (numE s 0).1 then ([], 2) else
  endN (nodesE (numE s 0).1 (numE s 0).2.1 (numE s 0).2.2).1 (nodesE (numE s 0).1 (numE s 0).2.1 (numE s 0).2.2).2.1 (nodesE (numE s 0).1 (numE s 0).2.1 (numE s 0).2.2).2.2
theorem decN_of {s s1 s2 : ByteArray} {n e1 e2 : Nat} {l : List Nr} (h1 : numE s 0 = (n, s1, e1)) (h2 : ¬ (e1 = 0 ∧ 200 < n)) (h3 : nodesE n s1 e1 = (l, s2, e2)) : decN s = endN l s2 e2 := by
  unfold decN
  simp only [h1, h3]
  rw [if_neg h2]
theorem decN_big {s s1 : ByteArray} {n e1 : Nat} (h1 : numE s 0 = (n, s1, e1)) (h2 : e1 = 0 ∧ 200 < n) : decN s = ([], 2) := by
  unfold decN
  simp only [h1]
  rw [if_pos h2]
theorem decN_enc {l : List Nr} (h : chkN l = 0) (hp : ∀ x ∈ l, PureN x) : decN (bs (encN l)) = (l, 0) := by
  obtain ⟨hl, hf⟩ := chk_fit h
  have h1 := numE_var l.length (bodyN l) (by omega)
  have h2 := nodesE_body l [] (fun x hx => fit_nr (hf x hx) (hp x hx))
  rw [List.append_nil] at h2
  unfold encN
  rw [decN_of h1 (by omega) h2]
  unfold endN
  rw [if_neg (by decide), if_neg (by decide), if_neg (by omega)]
theorem decN_more {l : List Nr} (h : chkN l = 0) (hp : ∀ x ∈ l, PureN x) (c : UInt8) : decN (bs (encN l ++ [c])) = ([], 3) := by
  obtain ⟨hl, hf⟩ := chk_fit h
  have h1 := numE_var l.length (bodyN l ++ [c]) (by omega)
  have h2 := nodesE_body l [c] (fun x hx => fit_nr (hf x hx) (hp x hx))
  unfold encN
  rw [List.append_assoc, decN_of h1 (by omega) h2]
  unfold endN
  rw [if_neg (by decide), if_pos (by rw [bs_size]; simp)]
theorem encN_inj {a b : List Nr} (ha : chkN a = 0) (hb : chkN b = 0) (pa : ∀ x ∈ a, PureN x) (pb : ∀ x ∈ b, PureN x) (h : encN a = encN b) : a = b := by
  have h1 := decN_enc ha pa
  rw [h, decN_enc hb pb] at h1
  simp only [Prod.mk.injEq] at h1
  exact h1.1.symm
theorem decN_back {s : ByteArray} (h : (decN s).2 = 0) (hs : s.size ≤ 1099511627776) : chkN (decN s).1 = 0 ∧ bs (encN (decN s).1) = s ∧ ∀ x ∈ (decN s).1, PureN x := by
  rcases h1 : numE s 0 with ⟨n, s1, e1⟩
  by_cases h2 : e1 = 0 ∧ 200 < n
  · rw [decN_big h1 h2] at h; cases h
  rcases h3 : nodesE n s1 e1 with ⟨l, s2, e2⟩
  rw [decN_of h1 h2 h3] at h ⊢
  unfold endN at h ⊢
  by_cases he : e2 = 0
  · subst he
    rw [if_neg (by decide)] at h ⊢
    by_cases hz : s2.size = 0
    · rw [if_neg (by omega)] at h ⊢
      by_cases hc : chkN l = 0
      · rw [if_neg (by omega)]
        have z1 := (numE_le s 0).2
        rw [h1] at z1
        obtain ⟨rfl, a3, b3, c3⟩ := nodesE_back n h3 (Nat.le_trans z1 hs)
        obtain ⟨_, a1, _⟩ := numE_back h1
        refine ⟨hc, ?_, fun x hx => ⟨(c3 x hx).no2, (c3 x hx).no3⟩⟩
        apply ba_inj
        rw [bs_list, a1, a3]
        have : s2.data.toList = [] := List.eq_nil_of_length_eq_zero (by rw [ba_len, hz])
        rw [this, List.append_nil]
        unfold encN
        rw [b3]
      · rw [if_pos hc] at h
        exact absurd h hc
    · rw [if_pos hz] at h; cases h
  · rw [if_pos he] at h
    exact absurd h he
theorem decN_no {s : ByteArray} (h : (decN s).2 ≠ 0) : (decN s).1 = [] := by
  rcases h1 : numE s 0 with ⟨n, s1, e1⟩
  by_cases h2 : e1 = 0 ∧ 200 < n
  · rw [decN_big h1 h2]
  rcases h3 : nodesE n s1 e1 with ⟨l, s2, e2⟩
  rw [decN_of h1 h2 h3] at h ⊢
  unfold endN at h ⊢
  split
  · rfl
  · split
    · rfl
    · split
      · rfl
      · next h1 h2 h3 => rw [if_neg h1, if_neg h2, if_neg h3] at h; exact absurd rfl h
end Go.Proofs.YtaoejgnfoecpfaaDoor
