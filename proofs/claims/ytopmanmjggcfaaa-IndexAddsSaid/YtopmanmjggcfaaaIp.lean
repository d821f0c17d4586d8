/- The index: the plain law. -/
import Derived.Test.YtopmanmjggcfaaaKr
import Derived.Test.YtopmanmjggcfaaaBs
import Derived.Test.YtopmanmjggcfaaaHp
namespace Go.Proofs.Ytopmanmjggcfaaa
open Go.RowKit

/-- a chunk's head in a pack -/
structure Hd where
  name : ByteArray
  method : Int
  crc : Int
  packed : Int
  size : Int
  at_ : Int
/-- where a chunk stands -/
structure Pl where
  pack : ByteArray
  head : Hd
/-- an index: its packs as they came, its places by rising names -/
structure Ix where
  packs : List ByteArray
  places : List (ByteArray × Pl)

/-- rising keys -/
def kvUp {α : Type} (l : List (ByteArray × α)) : Prop := l.Pairwise fun p q => p.1.data.toList < q.1.data.toList
theorem before_lt : ∀ x y : List UInt8, bytesBefore x y = decide (x < y)
  | [], [] => by simp [bytesBefore]
  | [], _ :: _ => by simp [bytesBefore]
  | _ :: _, [] => by simp [bytesBefore]
  | a :: x, b :: y => by
    rw [bytesBefore, before_lt x y]
    rw [Bool.eq_iff_iff]
    simp [List.cons_lt_cons_iff]
theorem less_lt : ∀ x y : List UInt8, Op.bytesLess x y = decide (x < y)
  | [], [] => by simp [Op.bytesLess]
  | [], _ :: _ => by simp [Op.bytesLess]
  | _ :: _, [] => by simp [Op.bytesLess]
  | a :: x, b :: y => by
    rw [Op.bytesLess, less_lt x y]
    rw [Bool.eq_iff_iff]
    simp [List.cons_lt_cons_iff]
theorem lt_ne {a b : ByteArray} (h : a.data.toList < b.data.toList) : a ≠ b := by
  rintro rfl
  exact List.lt_irrefl _ h
theorem lt_cases (a b : ByteArray) : a.data.toList < b.data.toList ∨ a = b ∨ b.data.toList < a.data.toList := by
  by_cases h1 : a.data.toList < b.data.toList
  · exact .inl h1
  · by_cases h2 : b.data.toList < a.data.toList
    · exact .inr (.inr h2)
    · exact .inr (.inl (ba_inj (List.le_antisymm (List.not_lt.1 h2) (List.not_lt.1 h1))))
theorem kvUp.apart {α : Type} {l : List (ByteArray × α)} (h : kvUp l) : kvApart l := h.imp fun h => lt_ne h
theorem kvIns_up {α : Type} (x : ByteArray × α) : ∀ {l : List (ByteArray × α)}, kvUp l → (∀ p ∈ l, p.1 ≠ x.1) → kvUp (kvIns x l)
  | [], _, _ => List.pairwise_cons.2 ⟨(fun _ h => by cases h), List.Pairwise.nil⟩
  | y :: r, h, hn => by
    have h' := List.pairwise_cons.1 h
    unfold kvIns
    rw [before_lt]
    by_cases hxy : x.1.data.toList < y.1.data.toList
    · rw [if_pos (by simpa using hxy)]
      refine List.pairwise_cons.2 ⟨fun p hp => ?_, h⟩
      rcases List.mem_cons.1 hp with rfl | hp
      · exact hxy
      · exact List.lt_trans hxy (h'.1 p hp)
    · rw [if_neg (by simpa using hxy)]
      refine List.pairwise_cons.2 ⟨fun p hp => ?_, kvIns_up x h'.2 (fun p hp => hn p (List.mem_cons_of_mem _ hp))⟩
      rcases List.mem_cons.1 ((kvIns_perm x r).mem_iff.1 hp) with rfl | hp
      · rcases lt_cases p.1 y.1 with h1 | h1 | h1
        · exact absurd h1 hxy
        · exact absurd h1.symm (hn y (List.mem_cons_self ..))
        · exact h1
      · exact h'.1 p hp
theorem kvDel_up {α : Type} {l : List (ByteArray × α)} (k : ByteArray) (h : kvUp l) : kvUp (kvDel l k) := h.filter _
theorem kvPut_up {α : Type} {l : List (ByteArray × α)} (k : ByteArray) (v : α) (h : kvUp l) : kvUp (kvPut l k v) := kvIns_up _ (kvDel_up k h) kvDel_no
theorem kvGet_none {α : Type} {l : List (ByteArray × α)} {k : ByteArray} (h : ∀ p ∈ l, p.1 ≠ k) : kvGet l k = none := by
  unfold kvGet
  rw [List.find?_eq_none.2 (fun p hp => by simpa using h p hp)]
  rfl
theorem kvGet_none_iff {α : Type} {l : List (ByteArray × α)} {k : ByteArray} (h : kvGet l k = none) : ∀ p ∈ l, p.1 ≠ k := by
  unfold kvGet at h
  rw [Option.map_eq_none_iff, List.find?_eq_none] at h
  intro p hp
  simpa using h p hp
theorem kvUp_ext {α : Type} : ∀ {l m : List (ByteArray × α)}, kvUp l → kvUp m → (∀ k, kvGet l k = kvGet m k) → l = m
  | [], [], _, _, _ => rfl
  | [], y :: s, _, _, h => by have := h y.1; simp [kvGet] at this
  | x :: r, [], _, _, h => by have := h x.1; simp [kvGet] at this
  | x :: r, y :: s, hl, hm, h => by
    have hl' := List.pairwise_cons.1 hl
    have hm' := List.pairwise_cons.1 hm
    have hxy : x.1 = y.1 := by
      rcases lt_cases x.1 y.1 with e | e | e
      · have h1 := h x.1
        have h2 : kvGet (y :: s) x.1 = none := kvGet_none fun p hp => by
          rcases List.mem_cons.1 hp with rfl | hp
          · exact (lt_ne e).symm
          · exact (lt_ne (List.lt_trans e (hm'.1 p hp))).symm
        rw [h2] at h1
        simp [kvGet] at h1
      · exact e
      · have h1 := h y.1
        have h2 : kvGet (x :: r) y.1 = none := kvGet_none fun p hp => by
          rcases List.mem_cons.1 hp with rfl | hp
          · exact (lt_ne e).symm
          · exact (lt_ne (List.lt_trans e (hl'.1 p hp))).symm
        rw [h2] at h1
        simp [kvGet] at h1
    have hv : x = y := by
      have h1 := h x.1
      obtain ⟨a, u⟩ := x
      obtain ⟨b, v⟩ := y
      simp only at hxy
      subst hxy
      simp [kvGet] at h1
      rw [h1]
    subst hv
    congr 1
    refine kvUp_ext hl'.2 hm'.2 fun k => ?_
    by_cases hk : x.1 = k
    · rw [kvGet_none (fun p hp => by rw [← hk]; exact (lt_ne (hl'.1 p hp)).symm), kvGet_none (fun p hp => by rw [← hk]; exact (lt_ne (hm'.1 p hp)).symm)]
    · have := h k
      simpa [kvGet, hk] using this
theorem kvGet_put {α : Type} {l : List (ByteArray × α)} (h : kvApart l) (k : ByteArray) (v : α) (j : ByteArray) : kvGet (kvPut l k v) j = if j = k then some v else kvGet l j := by
  have ha := kvApart_put k v h
  by_cases hj : j = k
  · subst hj
    rw [if_pos rfl]
    exact kvGet_of_mem ha ((kvPut_perm l j v).mem_iff.2 (List.mem_cons_self ..))
  · rw [if_neg hj]
    cases hg : kvGet l j with
    | none =>
      refine kvGet_none fun p hp e => ?_
      rcases kvPut_mem hp with rfl | hp
      · exact hj e.symm
      · exact kvGet_none_iff hg p hp e
    | some u =>
      have hm := kvGet_mem hg
      refine kvGet_of_mem ha ((kvPut_perm l k v).mem_iff.2 (List.mem_cons_of_mem _ ?_))
      unfold kvDel
      exact List.mem_filter.2 ⟨hm, by simpa using hj⟩
theorem kvIns_end {α : Type} (x : ByteArray × α) : ∀ {l : List (ByteArray × α)}, (∀ p ∈ l, p.1.data.toList < x.1.data.toList) → kvIns x l = l ++ [x]
  | [], _ => rfl
  | y :: r, h => by
    unfold kvIns
    rw [before_lt, if_neg, kvIns_end x (fun p hp => h p (List.mem_cons_of_mem _ hp))]
    · rfl
    · have := h y (List.mem_cons_self ..)
      simpa using List.lt_asymm this
theorem kvPut_end {α : Type} {l : List (ByteArray × α)} {k : ByteArray} (v : α) (h : ∀ p ∈ l, p.1.data.toList < k.data.toList) : kvPut l k v = l ++ [(k, v)] := by
  unfold kvPut
  rw [kvDel_noop (fun p hp => lt_ne (h p hp)), kvIns_end _ h]

/-- a head more: the elder place counts -/
def addH (pack : ByteArray) (l : List (ByteArray × Pl)) (h : Hd) : List (ByteArray × Pl) := if (kvGet l h.name).isSome then l else kvPut l h.name ⟨pack, h⟩
def hasP (l : List ByteArray) (pack : ByteArray) : Bool := l.any fun x => decide (x = pack)
theorem hasP_iff {l : List ByteArray} {pack : ByteArray} : hasP l pack = true ↔ pack ∈ l := by
  unfold hasP
  simp
def addP (l : List ByteArray) (pack : ByteArray) : List ByteArray := if hasP l pack = true then l else l ++ [pack]
def Ix.add (x : Ix) (pack : ByteArray) (hs : List Hd) : Ix := ⟨addP x.packs pack, hs.foldl (addH pack) x.places⟩
theorem addH_up {pack : ByteArray} {l : List (ByteArray × Pl)} {h : Hd} (hl : kvUp l) : kvUp (addH pack l h) := by
  unfold addH
  split
  · exact hl
  · exact kvPut_up _ _ hl
theorem adds_up {pack : ByteArray} : ∀ (hs : List Hd) {l : List (ByteArray × Pl)}, kvUp l → kvUp (hs.foldl (addH pack) l)
  | [], _, hl => hl
  | _h :: r, _, hl => adds_up r (addH_up hl)
theorem addH_get {pack : ByteArray} {l : List (ByteArray × Pl)} {h : Hd} (hl : kvUp l) (k : ByteArray) : kvGet (addH pack l h) k = (kvGet l k).or (if k = h.name then some ⟨pack, h⟩ else none) := by
  unfold addH
  cases hg : kvGet l h.name with
  | some u =>
    rw [if_pos (by rfl)]
    by_cases hk : k = h.name
    · rw [hk, hg]; rfl
    · rw [if_neg hk, Option.or_none]
  | none =>
    rw [if_neg (by simp), kvGet_put hl.apart]
    by_cases hk : k = h.name
    · rw [if_pos hk, if_pos hk, hk, hg]; rfl
    · rw [if_neg hk, if_neg hk, Option.or_none]
theorem adds_get {pack : ByteArray} : ∀ (hs : List Hd) {l : List (ByteArray × Pl)} (_ : kvUp l) (k : ByteArray), kvGet (hs.foldl (addH pack) l) k = (kvGet l k).or ((hs.find? fun h => decide (h.name = k)).map fun h => ⟨pack, h⟩)
  | [], _, _, _ => by simp
  | h :: r, l, hl, k => by
    rw [List.foldl_cons, adds_get r (addH_up hl) k, addH_get hl, Option.or_assoc]
    congr 1
    by_cases hk : k = h.name
    · rw [if_pos hk, List.find?_cons_of_pos (by simpa using hk.symm)]; rfl
    · rw [if_neg hk, List.find?_cons_of_neg (by simpa using fun e => hk e.symm)]; rfl
/-- each place under its head's name -/
def KeyOk (l : List (ByteArray × Pl)) : Prop := ∀ p ∈ l, p.1 = p.2.head.name
theorem addH_key {pack : ByteArray} {l : List (ByteArray × Pl)} {h : Hd} (hl : KeyOk l) : KeyOk (addH pack l h) := by
  unfold addH
  split
  · exact hl
  · intro p hp
    rcases kvPut_mem hp with rfl | hp
    · rfl
    · exact hl p hp
theorem addH_len {pack : ByteArray} (l : List (ByteArray × Pl)) (h : Hd) : (addH pack l h).length ≤ l.length + 1 := by
  unfold addH
  split
  · exact Nat.le_succ _
  · exact kvPut_len _ _ _
theorem adds_len {pack : ByteArray} : ∀ (hs : List Hd) (l : List (ByteArray × Pl)), (hs.foldl (addH pack) l).length ≤ l.length + hs.length
  | [], _ => by simp
  | h :: r, l => by
    have h1 := adds_len (pack := pack) r (addH pack l h)
    have h2 := addH_len (pack := pack) l h
    simp only [List.foldl_cons, List.length_cons]
    omega
theorem adds_mem {pack : ByteArray} : ∀ (hs : List Hd) {l : List (ByteArray × Pl)} {p : ByteArray × Pl}, p ∈ hs.foldl (addH pack) l → p ∈ l ∨ ∃ h ∈ hs, p = (h.name, ⟨pack, h⟩)
  | [], _, _, hp => .inl hp
  | h :: r, l, p, hp => by
    rcases adds_mem r hp with hp | ⟨g, hg, rfl⟩
    · unfold addH at hp
      split at hp
      · exact .inl hp
      · rcases kvPut_mem hp with rfl | hp
        · exact .inr ⟨h, List.mem_cons_self .., rfl⟩
        · exact .inl hp
    · exact .inr ⟨g, List.mem_cons_of_mem _ hg, rfl⟩
theorem adds_key {pack : ByteArray} {hs : List Hd} {l : List (ByteArray × Pl)} (hl : KeyOk l) : KeyOk (hs.foldl (addH pack) l) := fun p hp => by
  rcases adds_mem hs hp with hp | ⟨h, _, rfl⟩
  · exact hl p hp
  · rfl
theorem addP_mem {l : List ByteArray} {pack p : ByteArray} : p ∈ addP l pack ↔ p ∈ l ∨ p = pack := by
  unfold addP
  split
  · next h =>
    rw [hasP_iff] at h
    exact ⟨.inl, fun h' => by rcases h' with h' | rfl <;> assumption⟩
  · simp
theorem addP_nodup {l : List ByteArray} {pack : ByteArray} (h : l.Nodup) : (addP l pack).Nodup := by
  unfold addP
  split
  · exact h
  · next hn =>
    rw [hasP_iff] at hn
    rw [List.nodup_append]
    exact ⟨h, by simp, fun a ha b hb => by simp at hb; subst hb; exact fun e => hn (e ▸ ha)⟩
theorem addP_len (l : List ByteArray) (pack : ByteArray) : (addP l pack).length ≤ l.length + 1 := by
  unfold addP
  split <;> simp

/-- an index as Add makes it -/
structure Ix.Ok (x : Ix) : Prop where
  up : kvUp x.places
  key : KeyOk x.places
  inp : ∀ p ∈ x.places, p.2.pack ∈ x.packs
  dup : x.packs.Nodup
theorem Ix.ok_none : (⟨[], []⟩ : Ix).Ok := ⟨List.Pairwise.nil, (fun _ h => by cases h), (fun _ h => by cases h), List.nodup_nil⟩
theorem Ix.Ok.add {x : Ix} (h : x.Ok) (pack : ByteArray) (hs : List Hd) : (x.add pack hs).Ok := by
  refine ⟨adds_up hs h.up, adds_key h.key, fun p hp => ?_, addP_nodup h.dup⟩
  rcases adds_mem hs hp with hp | ⟨g, _, rfl⟩
  · exact addP_mem.2 (.inl (h.inp p hp))
  · exact addP_mem.2 (.inr rfl)
/-- a number's place among the packs -/
def idxP (packs : List ByteArray) (p : ByteArray) : Nat := packs.findIdx fun x => decide (x = p)
/-- one place as bytes -/
def plL (packs : List ByteArray) (p : Pl) : List UInt8 :=
  textL p.head.name ++ varL (idxP packs p.pack) ++ varL p.head.method.toNat ++ varL p.head.crc.toNat ++ varL p.head.packed.toNat ++ varL p.head.size.toNat ++ varL p.head.at_.toNat
def packsL (l : List ByteArray) : List UInt8 := (l.map textL).flatten
def plsL (packs : List ByteArray) (l : List (ByteArray × Pl)) : List UInt8 := (l.map fun p => plL packs p.2).flatten
/-- an index as bytes -/
def encI (x : Ix) : List UInt8 := varL x.packs.length ++ packsL x.packs ++ varL x.places.length ++ plsL x.packs x.places
end Go.Proofs.Ytopmanmjggcfaaa
