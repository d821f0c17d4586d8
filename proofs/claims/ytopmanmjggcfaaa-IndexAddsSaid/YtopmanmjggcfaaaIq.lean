/- The index: reading, the plain law. -/
import Derived.Test.YtopmanmjggcfaaaIp
namespace Go.Proofs.Ytopmanmjggcfaaa
open Go.RowKit

/-- what a reader's 'number' gives: the number, the rest, bad? -/
def numI (s : ByteArray) (b : Bool) : Nat × ByteArray × Bool :=
  if (unvarL s.data.toList).2 = 0 ∨ 4294967295 < (unvarL s.data.toList).1 then (0, s, true) else ((unvarL s.data.toList).1, s.extract (unvarL s.data.toList).2 s.size, b)
/-- what a reader's 'text' gives -/
def txI (s : ByteArray) (b : Bool) : ByteArray × ByteArray × Bool := takS (numI s b).2.1 (numI s b).2.2 (numI s b).1
theorem numI_bad (s : ByteArray) : (numI s true).2.2 = true := by unfold numI; split <;> rfl
theorem txI_bad (s : ByteArray) : (txI s true).2.2 = true := by unfold txI; rw [numI_bad]; exact takS_bad _ _
theorem numI_le (s : ByteArray) (b : Bool) : (numI s b).1 ≤ 4294967295 ∧ (numI s b).2.1.size ≤ s.size := by
  unfold numI
  split
  · exact ⟨Nat.zero_le _, Nat.le_refl _⟩
  · next h => exact ⟨by simp only; omega, by simp only [ByteArray.size_extract]; omega⟩
theorem txI_le (s : ByteArray) (b : Bool) : (txI s b).1.size ≤ s.size ∧ (txI s b).2.1.size ≤ s.size := by
  have h1 := (numI_le s b).2
  have h2 := takS_le (numI s b).2.1 (numI s b).2.2 (numI s b).1
  exact ⟨Nat.le_trans h2.1 h1, Nat.le_trans h2.2 h1⟩
theorem numI_var (x : Nat) (r : List UInt8) (b : Bool) (h : x ≤ 4294967295) : numI (bs (varL x ++ r)) b = (x, bs r, b) := by
  have hu := unvar_var x r (by omega)
  have hl := (varF_len 10 x).1
  unfold numI
  rw [bs_list, hu]
  have hne : ¬ ((varL x).length = 0 ∨ 4294967295 < x) := by
    have : 1 ≤ (varL x).length := hl
    omega
  simp only
  rw [if_neg hne, bs_drop, List.drop_left]
theorem numI_back {s r : ByteArray} {b : Bool} {x : Nat} (h : numI s b = (x, r, false)) : b = false ∧ s.data.toList = varL x ++ r.data.toList := by
  unfold numI at h
  split at h
  · simp at h
  · next hc =>
    simp only [Prod.mk.injEq] at h
    obtain ⟨rfl, rfl, rfl⟩ := h
    have hb := unvar_back (l := s.data.toList) (x := (unvarL s.data.toList).1) (n := (unvarL s.data.toList).2) rfl (fun e => hc (Or.inl e))
    refine ⟨rfl, ?_⟩
    rw [ext_drop, ← hb.2.2.1, List.take_append_drop]
theorem txI_text (t : ByteArray) (r : List UInt8) (b : Bool) (h : t.size ≤ 4294967295) : txI (bs (textL t ++ r)) b = (t, bs r, b) := by
  unfold txI textL
  rw [List.append_assoc, numI_var _ _ _ h]
  have := takS_app t.data.toList r b
  rw [ba_len, bs_self] at this
  exact this
theorem txI_back {s t r : ByteArray} {b : Bool} (h : txI s b = (t, r, false)) : b = false ∧ s.data.toList = textL t ++ r.data.toList := by
  unfold txI at h
  rcases hn : numI s b with ⟨x, s1, b1⟩
  rw [hn] at h
  obtain ⟨rfl, h2, h3⟩ := takS_back h
  obtain ⟨rfl, h4⟩ := numI_back hn
  refine ⟨rfl, ?_⟩
  unfold textL
  rw [h4, h2, h3, List.append_assoc]
/-- so many texts, as long as nothing is bad -/
def rdPs : Nat → ByteArray → Bool → List ByteArray × ByteArray × Bool
  | 0, s, b => ([], s, b)
  | n + 1, s, b => if b = true then ([], s, b) else ((txI s b).1 :: (rdPs n (txI s b).2.1 (txI s b).2.2).1, (rdPs n (txI s b).2.1 (txI s b).2.2).2)
theorem rdPs_bad (n : Nat) (s : ByteArray) : (rdPs n s true).2.2 = true := by cases n <;> rfl
theorem rdPs_le : ∀ (n : Nat) (s : ByteArray) (b : Bool), (rdPs n s b).1.length ≤ n ∧ (rdPs n s b).2.1.size ≤ s.size
  | 0, _, _ => by simp [rdPs]
  | n + 1, s, b => by
    simp only [rdPs]
    split
    · simp
    · have h1 := rdPs_le n (txI s b).2.1 (txI s b).2.2
      have h2 := txI_le s b
      simp only [List.length_cons]
      omega
theorem rdPs_text : ∀ (l : List ByteArray) (r : List UInt8), (∀ t ∈ l, t.size ≤ 4294967295) → rdPs l.length (bs (packsL l ++ r)) false = (l, bs r, false)
  | [], _, _ => rfl
  | t :: l, r, h => by
    have e : packsL (t :: l) ++ r = textL t ++ (packsL l ++ r) := by simp [packsL]
    rw [e]
    simp only [List.length_cons, rdPs]
    rw [txI_text _ _ _ (h t (by simp))]
    simp only [Bool.false_eq_true, if_false]
    rw [rdPs_text l r (fun x hx => h x (by simp [hx]))]
theorem rdPs_back : ∀ (n : Nat) {s r : ByteArray} {b : Bool} {l : List ByteArray}, rdPs n s b = (l, r, false) → b = false ∧ s.data.toList = packsL l ++ r.data.toList ∧ l.length = n
  | 0, s, r, b, l, h => by
    simp only [rdPs, Prod.mk.injEq] at h
    obtain ⟨rfl, rfl, rfl⟩ := h
    exact ⟨rfl, rfl, rfl⟩
  | n + 1, s, r, b, l, h => by
    cases b with
    | true => simp [rdPs] at h
    | false =>
      rcases ht : txI s false with ⟨t, s2, b2⟩
      rcases hl : rdPs n s2 b2 with ⟨l', r', b'⟩
      simp only [rdPs, ht, hl, Bool.false_eq_true, if_false, Prod.mk.injEq] at h
      obtain ⟨rfl, rfl, rfl⟩ := h
      obtain ⟨rfl, h2, h3⟩ := rdPs_back n hl
      obtain ⟨_, h4⟩ := txI_back ht
      refine ⟨rfl, ?_, by simp [h3]⟩
      rw [h4, h2]
      simp [packsL]
/-- one place: its head, its pack's number, the rest, bad? -/
def rdH (s : ByteArray) (b : Bool) : Hd × Nat × ByteArray × Bool :=
  let a0 := txI s b
  let a1 := numI a0.2.1 a0.2.2
  let a2 := numI a1.2.1 a1.2.2
  let a3 := numI a2.2.1 a2.2.2
  let a4 := numI a3.2.1 a3.2.2
  let a5 := numI a4.2.1 a4.2.2
  let a6 := numI a5.2.1 a5.2.2
  (⟨a0.1, a2.1, a3.1, a4.1, a5.1, a6.1⟩, a1.1, a6.2.1, a6.2.2)
theorem rdH_le (s : ByteArray) (b : Bool) : (rdH s b).2.2.1.size ≤ s.size ∧ (rdH s b).1.name.size ≤ s.size := by
  have h0 := txI_le s b
  unfold rdH
  simp only
  refine ⟨?_, h0.1⟩
  refine Nat.le_trans (numI_le _ _).2 (Nat.le_trans (numI_le _ _).2 (Nat.le_trans (numI_le _ _).2 (Nat.le_trans (numI_le _ _).2 (Nat.le_trans (numI_le _ _).2 (Nat.le_trans (numI_le _ _).2 h0.2)))))
/-- is a place refused? -/
def refQ (packs : List ByteArray) (last : ByteArray) (r : Hd × Nat × ByteArray × Bool) : Prop := r.2.2.2 = true ∨ isNameD r.1.name = false ∨ ¬ last.data.toList < r.1.name.data.toList ∨ packs.length ≤ r.2.1
instance (packs : List ByteArray) (last : ByteArray) (r : Hd × Nat × ByteArray × Bool) : Decidable (refQ packs last r) := by unfold refQ; infer_instance
/-- so many places, rising -/
def rdQ (packs : List ByteArray) : Nat → ByteArray → ByteArray → Option (List Pl × ByteArray)
  | 0, _, s => some ([], s)
  | n + 1, last, s => if refQ packs last (rdH s false) then none else (rdQ packs n (rdH s false).1.name (rdH s false).2.2.1).map fun q => (⟨packs.getD (rdH s false).2.1 ⟨#[]⟩, (rdH s false).1⟩ :: q.1, q.2)
def keyed (l : List Pl) : List (ByteArray × Pl) := l.map fun p => (p.head.name, p)
/-- behind the packs: the places, and nothing behind them -/
def decQ (packs : List ByteArray) (n : Nat) (last : ByteArray) (acc : List Pl) (s : ByteArray) : Option Ix :=
  match rdQ packs n last s with
  | none => none
  | some q => if q.2.size = 0 then some ⟨packs, keyed (acc ++ q.1)⟩ else none
/-- is there one twice? -/
def dupP : List ByteArray → Bool
  | [] => false
  | x :: r => hasP r x || dupP r
theorem dupP_iff : ∀ {l : List ByteArray}, dupP l = false ↔ l.Nodup
  | [] => by simp [dupP]
  | x :: r => by
    rw [dupP, Bool.or_eq_false_iff, dupP_iff, List.nodup_cons, ← hasP_iff, Bool.not_eq_true]
/-- the index of bytes -/
def decI (s : ByteArray) : Option Ix :=
  let a := numI s false
  let p := rdPs a.1 a.2.1 a.2.2
  let m := numI p.2.1 p.2.2
  if m.2.2 = true ∨ dupP p.1 = true then none else decQ p.1 m.1 ⟨#[]⟩ [] m.2.1
/-- numbers that fit -/
def HdB (h : Hd) : Prop := 0 ≤ h.method ∧ h.method ≤ 4294967295 ∧ 0 ≤ h.crc ∧ h.crc ≤ 4294967295 ∧ 0 ≤ h.packed ∧ h.packed ≤ 4294967295 ∧ 0 ≤ h.size ∧ h.size ≤ 4294967295 ∧ 0 ≤ h.at_ ∧ h.at_ ≤ 4294967295
theorem name_size {s : ByteArray} (h : isNameD s = true) : s.size = 64 := by
  unfold isNameD at h
  simp only [Bool.and_eq_true, decide_eq_true_eq] at h
  exact h.1
theorem rdH_text {packs : List ByteArray} {p : Pl} (hn : p.head.name.size ≤ 4294967295) (hb : HdB p.head) (hi : idxP packs p.pack ≤ 4294967295) (r : List UInt8) : rdH (bs (plL packs p ++ r)) false = (p.head, idxP packs p.pack, bs r, false) := by
  obtain ⟨pk, ⟨nm, m, c, z, y, a⟩⟩ := p
  obtain ⟨b1, b2, b3, b4, b5, b6, b7, b8, b9, b10⟩ := hb
  simp only at *
  unfold rdH plL
  simp only [List.append_assoc]
  have e0 := txI_text nm (varL (idxP packs pk) ++ (varL m.toNat ++ (varL c.toNat ++ (varL z.toNat ++ (varL y.toNat ++ (varL a.toNat ++ r)))))) false hn
  have e1 := numI_var (idxP packs pk) (varL m.toNat ++ (varL c.toNat ++ (varL z.toNat ++ (varL y.toNat ++ (varL a.toNat ++ r))))) false hi
  have e2 := numI_var m.toNat (varL c.toNat ++ (varL z.toNat ++ (varL y.toNat ++ (varL a.toNat ++ r)))) false (by omega)
  have e3 := numI_var c.toNat (varL z.toNat ++ (varL y.toNat ++ (varL a.toNat ++ r))) false (by omega)
  have e4 := numI_var z.toNat (varL y.toNat ++ (varL a.toNat ++ r)) false (by omega)
  have e5 := numI_var y.toNat (varL a.toNat ++ r) false (by omega)
  have e6 := numI_var a.toNat r false (by omega)
  simp only [e0, e1, e2, e3, e4, e5, e6]
  congr 2 <;> omega
theorem rdH_back {s r : ByteArray} {h : Hd} {i : Nat} {b : Bool} (hr : rdH s b = (h, i, r, false)) :
    b = false ∧ HdB h ∧ i ≤ 4294967295 ∧ s.data.toList = textL h.name ++ varL i ++ varL h.method.toNat ++ varL h.crc.toNat ++ varL h.packed.toNat ++ varL h.size.toNat ++ varL h.at_.toNat ++ r.data.toList := by
  unfold rdH at hr
  rcases h0 : txI s b with ⟨t, s0, b0⟩
  rcases h1 : numI s0 b0 with ⟨x1, s1, b1⟩
  rcases h2 : numI s1 b1 with ⟨x2, s2, b2⟩
  rcases h3 : numI s2 b2 with ⟨x3, s3, b3⟩
  rcases h4 : numI s3 b3 with ⟨x4, s4, b4⟩
  rcases h5 : numI s4 b4 with ⟨x5, s5, b5⟩
  rcases h6 : numI s5 b5 with ⟨x6, s6, b6⟩
  simp only [h0, h1, h2, h3, h4, h5, h6, Prod.mk.injEq] at hr
  obtain ⟨rfl, rfl, rfl, rfl⟩ := hr
  have l1 := (numI_le s0 b0).1
  have l2 := (numI_le s1 b1).1
  have l3 := (numI_le s2 b2).1
  have l4 := (numI_le s3 b3).1
  have l5 := (numI_le s4 b4).1
  have l6 := (numI_le s5 b5).1
  rw [h1] at l1
  rw [h2] at l2
  rw [h3] at l3
  rw [h4] at l4
  rw [h5] at l5
  rw [h6] at l6
  simp only at l1 l2 l3 l4 l5 l6
  obtain ⟨rfl, g6⟩ := numI_back h6
  obtain ⟨rfl, g5⟩ := numI_back h5
  obtain ⟨rfl, g4⟩ := numI_back h4
  obtain ⟨rfl, g3⟩ := numI_back h3
  obtain ⟨rfl, g2⟩ := numI_back h2
  obtain ⟨rfl, g1⟩ := numI_back h1
  obtain ⟨rfl, g0⟩ := txI_back h0
  refine ⟨rfl, ⟨by simp only; omega, by simp only; omega, by simp only; omega, by simp only; omega, by simp only; omega, by simp only; omega, by simp only; omega, by simp only; omega, by simp only; omega, by simp only; omega⟩, l1, ?_⟩
  simp only [Int.toNat_natCast]
  rw [g0, g1, g2, g3, g4, g5, g6]
  simp only [List.append_assoc]
theorem idx_lt {packs : List ByteArray} {p : ByteArray} (h : p ∈ packs) : idxP packs p < packs.length ∧ packs.getD (idxP packs p) ⟨#[]⟩ = p := by
  have hl : idxP packs p < packs.length := List.findIdx_lt_length_of_exists ⟨p, h, by simp⟩
  refine ⟨hl, ?_⟩
  have := List.findIdx_getElem (w := hl)
  simp only [decide_eq_true_eq] at this
  rw [List.getD_eq_getElem?_getD, List.getElem?_eq_getElem hl]
  exact this
theorem idx_at : ∀ {packs : List ByteArray} (_ : packs.Nodup) {i : Nat} (h : i < packs.length), idxP packs packs[i] = i
  | x :: r, hd, 0, _ => by simp [idxP, List.findIdx_cons]
  | x :: r, hd, i + 1, h => by
    have hd' := List.nodup_cons.1 hd
    have hi : i < r.length := by simpa using h
    have hne : x ≠ r[i] := fun e => hd'.1 (e ▸ List.getElem_mem hi)
    have := idx_at hd'.2 hi
    simp only [idxP, List.getElem_cons_succ, List.findIdx_cons] at this ⊢
    rw [decide_eq_false hne, this]
    rfl
/-- what is written of places is read back -/
theorem rdQ_text {packs : List ByteArray} (hp : packs.length ≤ 4294967295) : ∀ (l : List (ByteArray × Pl)) (last : ByteArray) (r : List UInt8), kvUp l → (∀ p ∈ l, last.data.toList < p.1.data.toList) → KeyOk l → (∀ p ∈ l, p.2.pack ∈ packs) → (∀ p ∈ l, isNameD p.2.head.name = true ∧ HdB p.2.head) →
    rdQ packs l.length last (bs (plsL packs l ++ r)) = some (l.map (·.2), bs r)
  | [], _, _, _, _, _, _, _ => rfl
  | p :: l, last, r, hu, hla, hk, hm, hb => by
    have hu' := List.pairwise_cons.1 hu
    have hpm := hm p (by simp)
    obtain ⟨hn, hbp⟩ := hb p (by simp)
    have hi := idx_lt hpm
    have hkey : p.1 = p.2.head.name := hk p (by simp)
    have e : plsL packs (p :: l) ++ r = plL packs p.2 ++ (plsL packs l ++ r) := by simp [plsL]
    rw [e]
    simp only [List.length_cons, rdQ]
    rw [rdH_text (by rw [name_size hn]; omega) hbp (by omega)]
    have hla0 := hla p (by simp)
    rw [hkey] at hla0
    have hc : ¬ refQ packs last (p.2.head, idxP packs p.2.pack, bs (plsL packs l ++ r), false) := by
      unfold refQ
      rintro (h | h | h | h)
      · cases h
      · rw [hn] at h; cases h
      · exact h hla0
      · simp only at h; omega
    rw [if_neg hc, rdQ_text hp l _ r hu'.2 (fun q hq => by simp only [← hkey]; exact hu'.1 q hq) (fun q hq => hk q (by simp [hq])) (fun q hq => hm q (by simp [hq])) (fun q hq => hb q (by simp [hq]))]
    simp only [Option.map_some, List.map_cons, hi.2]
theorem keyed_of {l : List (ByteArray × Pl)} (h : KeyOk l) : keyed (l.map (·.2)) = l := by
  unfold keyed
  rw [List.map_map]
  conv => rhs; rw [← List.map_id l]
  exact List.map_congr_left fun p hp => by
    have := h p hp
    obtain ⟨a, b⟩ := p
    simp only at this
    simp [this]
/-- an index that can be written -/
structure Ix.Fit (x : Ix) : Prop where
  ok : x.Ok
  np : x.packs.length ≤ 4294967295
  nq : x.places.length ≤ 4294967295
  sp : ∀ t ∈ x.packs, t.size ≤ 4294967295
  hb : ∀ p ∈ x.places, isNameD p.2.head.name = true ∧ HdB p.2.head
theorem empty_lt {s : ByteArray} (h : s.size = 64) : (⟨#[]⟩ : ByteArray).data.toList < s.data.toList := by
  have hl : s.data.toList.length = 64 := by rw [ba_len]; exact h
  cases hs : s.data.toList with
  | nil => rw [hs] at hl; cases hl
  | cons a r => exact List.nil_lt_cons ..
/-- THE LAW: an index that is written is read back -/
theorem decI_enc {x : Ix} (h : x.Fit) : decI (bs (encI x)) = some x := by
  unfold decI encI
  simp only [List.append_assoc]
  have e1 := numI_var x.packs.length (packsL x.packs ++ (varL x.places.length ++ plsL x.packs x.places)) false h.np
  have e2 := rdPs_text x.packs (varL x.places.length ++ plsL x.packs x.places) h.sp
  have e3 := numI_var x.places.length (plsL x.packs x.places) false h.nq
  simp only [e1, e2, e3]
  have hc : ¬ (false = true ∨ dupP x.packs = true) := by
    rintro (h' | h')
    · cases h'
    · rw [dupP_iff.2 h.ok.dup] at h'; cases h'
  rw [if_neg hc]
  have e4 := rdQ_text h.np x.places ⟨#[]⟩ [] h.ok.up (fun p hp => by rw [h.ok.key p hp]; exact empty_lt (name_size (h.hb p hp).1)) h.ok.key h.ok.inp h.hb
  rw [List.append_nil] at e4
  unfold decQ
  rw [e4]
  simp only [List.nil_append]
  rw [keyed_of h.ok.key]
  rfl
theorem rdQ_back {packs : List ByteArray} (hd : packs.Nodup) (n : Nat) : ∀ (last s r : ByteArray) (l : List Pl), rdQ packs n last s = some (l, r) →
    s.data.toList = plsL packs (keyed l) ++ r.data.toList ∧ l.length = n ∧ kvUp (keyed l) ∧ (∀ p ∈ keyed l, last.data.toList < p.1.data.toList) ∧ (∀ p ∈ l, p.pack ∈ packs ∧ isNameD p.head.name = true ∧ HdB p.head) := by
  induction n with
  | zero =>
    intro last s r l h
    simp only [rdQ, Option.some.injEq, Prod.mk.injEq] at h
    obtain ⟨rfl, rfl⟩ := h
    exact ⟨rfl, rfl, List.Pairwise.nil, (fun _ h => by cases h), (fun _ h => by cases h)⟩
  | succ n ih =>
    intro last s r l h
    rcases hr : rdH s false with ⟨g, i, s2, b2⟩
    simp only [rdQ, hr] at h
    by_cases hc : refQ packs last (g, i, s2, b2)
    · rw [if_pos hc] at h; cases h
    · rw [if_neg hc] at h
      rcases hq : rdQ packs n g.name s2 with _ | ⟨l', r'⟩
      · rw [hq] at h; cases h
      · rw [hq] at h
        simp only [Option.map_some, Option.some.injEq, Prod.mk.injEq] at h
        obtain ⟨rfl, rfl⟩ := h
        unfold refQ at hc
        simp only [not_or] at hc
        obtain ⟨c1, c2, c3, c4⟩ := hc
        have hb2 : b2 = false := by cases b2; rfl; exact absurd rfl c1
        subst hb2
        have hname : isNameD g.name = true := by cases hh : isNameD g.name; exact absurd hh c2; rfl
        have hlast : last.data.toList < g.name.data.toList := by
          by_cases e : last.data.toList < g.name.data.toList
          · exact e
          · exact absurd e c3
        have hil : i < packs.length := by omega
        obtain ⟨_, hB, _, g1⟩ := rdH_back hr
        obtain ⟨q1, q2, q3, q4, q5⟩ := ih _ _ _ _ hq
        have hget : packs.getD i ⟨#[]⟩ = packs[i] := by rw [List.getD_eq_getElem?_getD, List.getElem?_eq_getElem hil]; rfl
        have hk : keyed (⟨packs.getD i ⟨#[]⟩, g⟩ :: l') = (g.name, ⟨packs.getD i ⟨#[]⟩, g⟩) :: keyed l' := rfl
        refine ⟨?_, by simp [q2], ?_, ?_, ?_⟩
        · rw [hk, g1, q1]
          have hix : idxP packs (packs.getD i ⟨#[]⟩) = i := by rw [hget]; exact idx_at hd hil
          simp only [plsL, List.map_cons, List.flatten_cons, plL, hix, List.append_assoc]
        · rw [hk]
          exact List.pairwise_cons.2 ⟨fun p hp => q4 p hp, q3⟩
        · rw [hk]
          intro p hp
          rcases List.mem_cons.1 hp with rfl | hp
          · exact hlast
          · exact List.lt_trans hlast (q4 p hp)
        · intro p hp
          rcases List.mem_cons.1 hp with rfl | hp
          · exact ⟨by rw [hget]; exact List.getElem_mem hil, hname, hB⟩
          · exact q5 p hp
theorem packs_sizes {l : List ByteArray} {s : List UInt8} {r : List UInt8} (h : s = packsL l ++ r) : ∀ t ∈ l, t.size ≤ s.length := by
  intro t ht
  subst h
  have h1 : (textL t).length ≤ (packsL l).length := by
    unfold packsL
    exact (List.sublist_flatten_of_mem (List.mem_map_of_mem ht)).length_le
  have h2 : (textL t).length = (varL t.size).length + t.size := by unfold textL; rw [List.length_append, ba_len]
  rw [List.length_append]
  omega
/-- THE LAW: what is read is written as it was -/
theorem decI_back {s : ByteArray} {x : Ix} (hs : s.size ≤ 4294967295) (h : decI s = some x) : bs (encI x) = s ∧ x.Fit := by
  unfold decI at h
  rcases h1 : numI s false with ⟨n, s1, b1⟩
  rcases h2 : rdPs n s1 b1 with ⟨l, s2, b2⟩
  rcases h3 : numI s2 b2 with ⟨m, s3, b3⟩
  simp only [h1, h2, h3] at h
  by_cases hc : b3 = true ∨ dupP l = true
  · rw [if_pos hc] at h; cases h
  · rw [if_neg hc] at h
    have hb3 : b3 = false := by cases b3; rfl; exact absurd (Or.inl rfl) hc
    have hd : l.Nodup := by
      cases e : dupP l
      · exact dupP_iff.1 e
      · exact absurd (Or.inr e) hc
    subst hb3
    unfold decQ at h
    rcases hq : rdQ l m ⟨#[]⟩ s3 with _ | ⟨q, r⟩
    · rw [hq] at h; cases h
    · rw [hq] at h
      simp only at h
      by_cases hz : r.size = 0
      · rw [if_pos hz] at h
        obtain rfl := Option.some.inj h
        have lm := (numI_le s2 b2).1
        rw [h3] at lm
        have ln := (numI_le s false).1
        rw [h1] at ln
        obtain ⟨rfl, g3⟩ := numI_back h3
        obtain ⟨rfl, g2, k2⟩ := rdPs_back _ h2
        obtain ⟨_, g1⟩ := numI_back h1
        obtain ⟨q1, q2, q3, q4, q5⟩ := rdQ_back hd _ _ _ _ _ hq
        have hn : r.data.toList = [] := List.eq_nil_of_length_eq_zero (by rw [ba_len]; exact hz)
        rw [hn, List.append_nil] at q1
        have hkl : (keyed q).length = m := by unfold keyed; rw [List.length_map, q2]
        simp only [List.nil_append]
        refine ⟨?_, ⟨q3, ?_, ?_, hd⟩, by simp only; omega, by simp only; omega, ?_, ?_⟩
        · apply ba_inj
          rw [bs_list, g1, g2, g3, q1]
          unfold encI
          simp only [k2, hkl, List.append_assoc]
        · intro p hp
          unfold keyed at hp
          obtain ⟨y, _, rfl⟩ := List.mem_map.1 hp
          rfl
        · intro p hp
          unfold keyed at hp
          obtain ⟨y, hy, rfl⟩ := List.mem_map.1 hp
          exact (q5 y hy).1
        · intro t ht
          have h5 := packs_sizes g2 t ht
          rw [ba_len] at h5
          have h6 := (numI_le s false).2
          rw [h1] at h6
          simp only at h6
          omega
        · intro p hp
          unfold keyed at hp
          obtain ⟨y, hy, rfl⟩ := List.mem_map.1 hp
          exact (q5 y hy).2
      · rw [if_neg hz] at h; cases h
end Go.Proofs.Ytopmanmjggcfaaa
