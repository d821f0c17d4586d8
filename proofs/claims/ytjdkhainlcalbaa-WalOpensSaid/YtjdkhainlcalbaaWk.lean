/- The log's disk that dies and crashes: plainly. -/
import Derived.Test.YtjdkhainlcalbaaWj
namespace Go.Proofs.Ytjdkhainlcalbaa
open Go.RowKit Go.Maps

/-- as LogSt, but so much of the log's file is safe -/
structure LogSn (D : Dk) (l : ByteArray) (n : Nat) (files : List Fl) (i o : Nat) (t : Option Nat) : Prop where
  eq : D = stD files i o t
  io : i ≠ o
  ti : ∀ j, t = some j → j ≠ i ∧ j ≠ o ∧ j < files.length ∧ (D.flAt j).data.size ≤ 100000
  il : i < files.length
  ol : o < files.length
  log : D.flAt i = ⟨l, n⟩
  oth : D.flAt o = ⟨otherData, 9⟩
  nl : n ≤ l.size
theorem LogSt.sn {D : Dk} {l : ByteArray} {files : List Fl} {i o : Nat} {t : Option Nat} (h : LogSt D l files i o t) : LogSn D l l.size files i o t :=
  ⟨h.eq, h.io, h.ti, h.il, h.ol, h.log, h.oth, Nat.le_refl _⟩

theorem leftFile_of (D : Dk) (ks : List Int) (k id : Nat) (name : ByteArray) (hg : kvGet (D.left ks) name = some id) : D.leftFile ks k name = ⟨(D.flAt id).data.extract 0 (D.keepN ks k id), D.keepN ks k id⟩ := by
  unfold Dk.leftFile; rw [hg]; rfl
theorem keepN_ge (D : Dk) (ks : List Int) (k id : Nat) : (D.flAt id).safe ≤ D.keepN ks k id := by unfold Dk.keepN; omega
theorem keepN_le2 (D : Dk) (ks : List Int) (k id : Nat) (h : (D.flAt id).safe ≤ (D.flAt id).data.size) : D.keepN ks k id ≤ (D.flAt id).data.size := by
  unfold Dk.keepN
  have h1 := Int.emod_lt_of_pos (sayI ks (D.steps.length + k)) (show (0 : Int) < (((D.flAt id).data.size - (D.flAt id).safe + 1 : Nat) : Int) by omega)
  have h2 := Int.emod_nonneg (sayI ks (D.steps.length + k)) (show (((D.flAt id).data.size - (D.flAt id).safe + 1 : Nat) : Int) ≠ 0 by omega)
  omega
/-- what a crash leaves, if what is left are these names -/
theorem crash_st (D : Dk) (ks : List Int) (i o : Nat) (t : Option Nat) (l : ByteArray) (n : Nat) (hl : D.left ks = fold i o t) (hr : D.room = 1048576) (hlog : D.flAt i = ⟨l, n⟩) (hn : n ≤ l.size) (ho : D.flAt o = ⟨otherData, 9⟩)
    (ht : ∀ j, t = some j → (D.flAt j).data.size ≤ 100000) : ∃ m files i2 o2 t2, n ≤ m ∧ m ≤ l.size ∧ LogSt (D.crash ks) (l.extract 0 m) files i2 o2 t2 ∧ files.length ≤ 3 := by
  have h9 : otherData.size = 9 := rfl
  have k1 := keepN_ge D ks 0 i
  have k2 := keepN_le2 D ks 0 i (by rw [hlog]; exact hn)
  rw [hlog] at k1 k2
  have fl := leftFile_of D ks 0 i logName (by rw [hl]; exact fold_log i o t)
  rw [hlog] at fl
  have hz : (l.extract 0 (D.keepN ks 0 i)).size = D.keepN ks 0 i := by rw [ByteArray.size_extract]; simp only at k2; omega
  have fo : ∀ k, D.leftFile ks k otherName = ⟨otherData, 9⟩ := fun k => by
    have := leftFile_safe D ks k o otherName (by rw [hl]; exact fold_other i o t) (by rw [ho]; rfl)
    rw [this, ho, h9]
  cases t with
  | none =>
    have hnm : D.leftNames ks = [logName, otherName] := by unfold Dk.leftNames; rw [hl, fold_names]; rfl
    have e : D.crash ks = stD [D.leftFile ks 0 logName, D.leftFile ks 1 otherName] 0 1 none := by
      have hf : D.newFolder ks 2 = fold 0 1 none := by unfold Dk.newFolder Dk.newFolder Dk.newFolder; rw [hnm]; decide +kernel
      unfold Dk.crash
      rw [hnm, hr]
      show (⟨1048576, D.newFiles ks 2, D.newFolder ks 2, D.newFolder ks 2, [], -1, false⟩ : Dk) = _
      rw [hf]
      unfold Dk.newFiles
      rw [hnm]; rfl
    refine ⟨D.keepN ks 0 i, _, 0, 1, none, k1, k2, ⟨e, by decide, fun j hj => (by cases hj), by simp, by simp, ?_, ?_⟩, by simp⟩
    · rw [e, hz]; exact fl
    · rw [e]; exact fo 1
  | some j =>
    have hnm : D.leftNames ks = [logName, logTemp, otherName] := by unfold Dk.leftNames; rw [hl, fold_names]; rfl
    have e : D.crash ks = stD [D.leftFile ks 0 logName, D.leftFile ks 1 logTemp, D.leftFile ks 2 otherName] 0 2 (some 1) := by
      have hf : D.newFolder ks 3 = fold 0 2 (some 1) := by unfold Dk.newFolder Dk.newFolder Dk.newFolder Dk.newFolder; rw [hnm]; decide +kernel
      unfold Dk.crash
      rw [hnm, hr]
      show (⟨1048576, D.newFiles ks 3, D.newFolder ks 3, D.newFolder ks 3, [], -1, false⟩ : Dk) = _
      rw [hf]
      unfold Dk.newFiles
      rw [hnm]; rfl
    refine ⟨D.keepN ks 0 i, _, 0, 2, some 1, k1, k2, ⟨e, by decide, fun j' hj => ?_, by simp, by simp, ?_, ?_⟩, by simp⟩
    · obtain rfl := Option.some.inj hj
      refine ⟨by decide, by decide, by simp, ?_⟩
      rw [e]
      have ft := leftFile_of D ks 1 j logTemp (by rw [hl]; exact fold_temp i o _)
      show (D.leftFile ks 1 logTemp).data.size ≤ _
      rw [ft]
      have := ht j rfl
      show ((D.flAt j).data.extract 0 _).size ≤ _
      rw [ByteArray.size_extract]; omega
    · rw [e, hz]; exact fl
    · rw [e]; exact fo 2

theorem step_rem (ks : List Int) (i o : Nat) (t : Option Nat) (k j : Nat) : ∃ t', leftStep ks (fold i o t) k ⟨3, logTemp, logTemp, j⟩ = fold i o t' ∧ (t' = none ∨ t' = t) := by
  by_cases hs : sayI ks k % 2 = 0
  · exact ⟨t, leftStep_skip _ hs, Or.inr rfl⟩
  · cases t with
    | none => exact ⟨none, leftStep_none (fold_temp i o none) (by decide), Or.inl rfl⟩
    | some j2 =>
      by_cases hj : j2 = j
      · subst hj
        exact ⟨none, (leftStep_del hs (fold_temp i o (some j2))).trans (fold_del i o _), Or.inl rfl⟩
      · exact ⟨some j2, leftStep_other (fold_temp i o (some j2)) hj, Or.inr rfl⟩
theorem step_made (ks : List Int) (i o : Nat) (t : Option Nat) (k n : Nat) : ∃ t', leftStep ks (fold i o t) k ⟨1, logTemp, logTemp, n⟩ = fold i o t' ∧ (t' = t ∨ t' = some n) := by
  by_cases hs : sayI ks k % 2 = 0
  · exact ⟨t, leftStep_skip _ hs, Or.inl rfl⟩
  · cases t with
    | none => exact ⟨some n, (leftStep_put hs (fold_temp i o none)).trans (fold_put i o none n), Or.inr rfl⟩
    | some j2 => exact ⟨some j2, leftStep_kind (fold_temp i o (some j2)) (by decide) (by decide), Or.inl rfl⟩
theorem step_ren (ks : List Int) (i o : Nat) (t : Option Nat) (k n : Nat) : leftStep ks (fold i o t) k ⟨2, logTemp, logName, n⟩ = fold i o t ∨ leftStep ks (fold i o t) k ⟨2, logTemp, logName, n⟩ = fold n o none := by
  by_cases hs : sayI ks k % 2 = 0
  · exact Or.inl (leftStep_skip _ hs)
  · cases t with
    | none => exact Or.inl (leftStep_none (fold_temp i o none) (by decide))
    | some j2 =>
      by_cases hj : j2 = n
      · subst hj
        exact Or.inr ((leftStep_ren hs (fold_temp i o (some j2))).trans (by rw [fold_del, fold_putLog]))
      · exact Or.inl (leftStep_other (fold_temp i o (some j2)) hj)
theorem left_rp1 (files : List Fl) (i o : Nat) (t : Option Nat) (ks : List Int) : ∃ t', (rp1 files i o t).left ks = fold i o t' ∧ (t' = none ∨ t' = t) := by
  cases t with
  | none => exact ⟨none, rfl, Or.inl rfl⟩
  | some j => exact step_rem ks i o (some j) 0 j
theorem left_rp2 (files : List Fl) (i o : Nat) (t : Option Nat) (d : ByteArray) (ks : List Int) : ∃ t', (rp2 files i o t d).left ks = fold i o t' ∧ (t' = none ∨ t' = t ∨ t' = some files.length) := by
  cases t with
  | none =>
    obtain ⟨t', h1, h2⟩ := step_made ks i o none 0 files.length
    exact ⟨t', h1, h2.elim Or.inl (fun h => Or.inr (Or.inr h))⟩
  | some j =>
    obtain ⟨t1, h1, h2⟩ := step_rem ks i o (some j) 0 j
    obtain ⟨t', h3, h4⟩ := step_made ks i o t1 1 files.length
    refine ⟨t', ?_, ?_⟩
    · show leftStep ks (leftStep ks (fold i o (some j)) 0 _) 1 _ = _
      rw [h1, h3]
    · rcases h4 with h4 | h4
      · rw [h4]; exact h2.elim Or.inl (fun h => Or.inr (Or.inl h))
      · exact Or.inr (Or.inr h4)
theorem left_rp4 (files : List Fl) (i o : Nat) (t : Option Nat) (d : ByteArray) (ks : List Int) : (∃ t', (rp4 files i o t d).left ks = fold i o t' ∧ (t' = none ∨ t' = t ∨ t' = some files.length)) ∨ (rp4 files i o t d).left ks = fold files.length o none := by
  obtain ⟨t', h1, h2⟩ := left_rp2 files i o t d ks
  cases t with
  | none =>
    have e : (rp4 files i o none d).left ks = leftStep ks ((rp2 files i o none d).left ks) 1 ⟨2, logTemp, logName, files.length⟩ := rfl
    rw [e, h1]
    rcases step_ren ks i o t' 1 files.length with h | h
    · exact Or.inl ⟨t', h, h2⟩
    · exact Or.inr h
  | some j =>
    have e : (rp4 files i o (some j) d).left ks = leftStep ks ((rp2 files i o (some j) d).left ks) 2 ⟨2, logTemp, logName, files.length⟩ := rfl
    rw [e, h1]
    rcases step_ren ks i o t' 2 files.length with h | h
    · exact Or.inl ⟨t', h, h2⟩
    · exact Or.inr h

/-- a replacement that has come so far -/
def RpAt (files : List Fl) (i o : Nat) (t : Option Nat) (d : ByteArray) (q : Dk) : Prop := q = stD files i o t ∨ q = rp1 files i o t ∨ q = rp2 files i o t d ∨ q = rp3 files i o t d ∨ q = rp4 files i o t d
theorem flAt_more {D E : Dk} {f : Fl} {k : Nat} (he : E.files = D.files ++ [f]) (h : k < D.files.length) : E.flAt k = D.flAt k := by
  simp [Dk.flAt, he, List.getD, List.getElem?_append_left h]
theorem flAt_same {D E : Dk} {k : Nat} (he : E.files = D.files) : E.flAt k = D.flAt k := by simp [Dk.flAt, he]
theorem flAt_end {D E : Dk} {f : Fl} (he : E.files = D.files ++ [f]) : E.flAt D.files.length = f := by
  simp [Dk.flAt, he, List.getD]

theorem crash_rp {files : List Fl} {i o : Nat} {t : Option Nat} {l : ByteArray} {n : Nat} (h : LogSn (stD files i o t) l n files i o t) (d : ByteArray) (hd : d.size ≤ 100000) (q : Dk) (hq : RpAt files i o t d q) (ks : List Int) :
    ∃ f i2 o2 t2, ((∃ m, n ≤ m ∧ m ≤ l.size ∧ LogSt (q.crash ks) (l.extract 0 m) f i2 o2 t2) ∨ LogSt (q.crash ks) d f i2 o2 t2) ∧ f.length ≤ 3 := by
  have main : ∀ (E : Dk) (t' : Option Nat), E.left ks = fold i o t' → E.room = 1048576 → E.flAt i = ⟨l, n⟩ → E.flAt o = ⟨otherData, 9⟩ → (∀ j, t' = some j → (E.flAt j).data.size ≤ 100000) →
      ∃ f i2 o2 t2, ((∃ m, n ≤ m ∧ m ≤ l.size ∧ LogSt (E.crash ks) (l.extract 0 m) f i2 o2 t2) ∨ LogSt (E.crash ks) d f i2 o2 t2) ∧ f.length ≤ 3 := by
    intro E t' h1 h2 h3 h4 h5
    obtain ⟨m, f, i2, o2, t2, c1, c2, c3, c4⟩ := crash_st E ks i o t' l n h1 h2 h3 h.nl h4 h5
    exact ⟨f, i2, o2, t2, Or.inl ⟨m, c1, c2, c3⟩, c4⟩
  have told : ∀ (E : Dk) (fl : Fl) (t' : Option Nat), E.files = files ++ [fl] → fl.data = d → (t' = none ∨ t' = t ∨ t' = some files.length) → ∀ j, t' = some j → (E.flAt j).data.size ≤ 100000 := by
    intro E fl t' he hf h1 j hj
    subst hj
    rcases h1 with h1 | h1 | h1
    · cases h1
    · have := h.ti j h1.symm
      rw [flAt_more (D := stD files i o t) he this.2.2.1]; exact this.2.2.2
    · obtain rfl := Option.some.inj h1
      rw [show E.flAt files.length = fl from flAt_end (D := stD files i o t) he, hf]; exact hd
  rcases hq with rfl | rfl | rfl | rfl | rfl
  · exact main _ t rfl rfl h.log h.oth (fun j hj => (h.ti j hj).2.2.2)
  · obtain ⟨t', h1, h2⟩ := left_rp1 files i o t ks
    refine main _ t' h1 rfl ((flAt_same rfl).trans h.log) ((flAt_same rfl).trans h.oth) (fun j hj => ?_)
    subst hj
    rcases h2 with h2 | h2
    · cases h2
    · rw [flAt_same (D := stD files i o t) (E := rp1 files i o t) rfl]; exact (h.ti j h2.symm).2.2.2
  · obtain ⟨t', h1, h2⟩ := left_rp2 files i o t d ks
    exact main _ t' h1 rfl ((flAt_more (D := stD files i o t) (f := ⟨d, 0⟩) rfl h.il).trans h.log) ((flAt_more (D := stD files i o t) (f := ⟨d, 0⟩) rfl h.ol).trans h.oth) (told _ ⟨d, 0⟩ t' rfl rfl h2)
  · obtain ⟨t', h1, h2⟩ := left_rp2 files i o t d ks
    have h1' : (rp3 files i o t d).left ks = fold i o t' := by rw [← h1]; cases t <;> rfl
    exact main _ t' h1' rfl ((flAt_more (D := stD files i o t) (f := ⟨d, d.size⟩) rfl h.il).trans h.log) ((flAt_more (D := stD files i o t) (f := ⟨d, d.size⟩) rfl h.ol).trans h.oth) (told _ ⟨d, d.size⟩ t' rfl rfl h2)
  · rcases left_rp4 files i o t d ks with ⟨t', h1, h2⟩ | h1
    · exact main _ t' h1 rfl ((flAt_more (D := stD files i o t) (f := ⟨d, d.size⟩) rfl h.il).trans h.log) ((flAt_more (D := stD files i o t) (f := ⟨d, d.size⟩) rfl h.ol).trans h.oth) (told _ ⟨d, d.size⟩ t' rfl rfl h2)
    · obtain ⟨m, f, i2, o2, t2, c1, c2, c3, c4⟩ := crash_st (rp4 files i o t d) ks files.length o none d d.size h1 rfl (flAt_end (D := stD files i o t) rfl) (Nat.le_refl _) ((flAt_more (D := stD files i o t) (f := ⟨d, d.size⟩) rfl h.ol).trans h.oth) (fun j hj => by cases hj)
      have : m = d.size := by omega
      subst this
      rw [extract_all] at c3
      exact ⟨f, i2, o2, t2, Or.inr c3, c4⟩
theorem crash_new {files : List Fl} {i o : Nat} {t : Option Nat} {l : ByteArray} {n : Nat} (h : LogSn (stD files i o t) l n files i o t) (d : ByteArray) (ks : List Int) :
    ∃ f i2 o2 t2, LogSt ((stD (files ++ [⟨d, d.size⟩]) files.length o none).crash ks) d f i2 o2 t2 ∧ f.length ≤ 3 := by
  obtain ⟨m, f, i2, o2, t2, c1, c2, c3, c4⟩ := crash_st (stD (files ++ [⟨d, d.size⟩]) files.length o none) ks files.length o none d d.size rfl rfl (flAt_end (D := stD files i o t) rfl) (Nat.le_refl _) ((flAt_more (D := stD files i o t) (f := ⟨d, d.size⟩) rfl h.ol).trans h.oth) (fun j hj => by cases hj)
  have : m = d.size := by omega
  subst this
  rw [extract_all] at c3
  exact ⟨f, i2, o2, t2, c3, c4⟩

/-! an armed disk -/
theorem alive_arm (D : Dk) (a : Int) (ha : -1 ≤ a) : (∃ a', -1 ≤ a' ∧ (D.at' a false).alive = D.at' a' false) ∨ (D.at' a false).alive = D.at' (-1) true := by
  rcases Int.lt_trichotomy a 0 with h | h | h
  · exact Or.inl ⟨a, ha, by unfold Dk.alive Dk.at' armNext; simp only; rw [if_neg (by omega), if_neg (by omega)]⟩
  · subst h; exact Or.inr rfl
  · exact Or.inl ⟨a - 1, by omega, by unfold Dk.alive Dk.at' armNext; simp only; rw [if_neg (by omega), if_pos h]⟩
section
variable {D : Dk} (h1 : D.arm = -1) (h2 : D.dead = false) (a : Int) (ha : -1 ≤ a)
include h1 h2 ha
theorem remove_arm (name : ByteArray) : (∃ a', -1 ≤ a' ∧ (D.at' a false).remove name = ((D.remove name).1.at' a' false, (D.remove name).2)) ∨ (D.at' a false).remove name = (D.at' (-1) true, 10) := by
  unfold Dk.remove
  rw [alive_same h1 h2, h2]
  rcases alive_arm D a ha with ⟨a', h, e⟩ | e
  · refine Or.inl ⟨a', h, ?_⟩
    rw [e, show (D.at' a' false).dead = false from rfl, show (D.at' a false).folder = D.folder from rfl]
    cases kvGet D.folder name <;> rfl
  · exact Or.inr (by rw [e]; rfl)
theorem sync_arm (name : ByteArray) : (∃ a', -1 ≤ a' ∧ (D.at' a false).sync name = ((D.sync name).1.at' a' false, (D.sync name).2)) ∨ (D.at' a false).sync name = (D.at' (-1) true, 10) := by
  unfold Dk.sync
  rw [alive_same h1 h2, h2]
  rcases alive_arm D a ha with ⟨a', h, e⟩ | e
  · refine Or.inl ⟨a', h, ?_⟩
    rw [e, show (D.at' a' false).dead = false from rfl, show (D.at' a false).folder = D.folder from rfl]
    cases kvGet D.folder name <;> rfl
  · exact Or.inr (by rw [e]; rfl)
theorem rename_arm (src dst : ByteArray) : (∃ a', -1 ≤ a' ∧ (D.at' a false).rename src dst = ((D.rename src dst).1.at' a' false, (D.rename src dst).2)) ∨ (D.at' a false).rename src dst = (D.at' (-1) true, 10) := by
  unfold Dk.rename
  rw [alive_same h1 h2, h2]
  rcases alive_arm D a ha with ⟨a', h, e⟩ | e
  · refine Or.inl ⟨a', h, ?_⟩
    rw [e, show (D.at' a' false).dead = false from rfl, show (D.at' a false).folder = D.folder from rfl]
    cases kvGet D.folder src with
    | none => rfl
    | some j => cases dkName dst <;> rfl
  · exact Or.inr (by rw [e]; rfl)
theorem settle_arm : (∃ a', -1 ≤ a' ∧ (D.at' a false).settle = (D.settle.1.at' a' false, D.settle.2)) ∨ (D.at' a false).settle = (D.at' (-1) true, 10) := by
  unfold Dk.settle
  rw [alive_same h1 h2, h2]
  rcases alive_arm D a ha with ⟨a', h, e⟩ | e
  · exact Or.inl ⟨a', h, by rw [e]; rfl⟩
  · exact Or.inr (by rw [e]; rfl)
theorem append_arm (name data : ByteArray) : (∃ a', -1 ≤ a' ∧ (D.at' a false).append name data = ((D.append name data).1.at' a' false, (D.append name data).2)) ∨ (D.at' a false).append name data = (D.at' (-1) true, 10) := by
  unfold Dk.append
  rw [alive_same h1 h2, h2]
  rcases alive_arm D a ha with ⟨a', h, e⟩ | e
  · refine Or.inl ⟨a', h, ?_⟩
    rw [e, show (D.at' a' false).dead = false from rfl, show (D.at' a false).room = D.room from rfl, show (D.at' a false).used = D.used from rfl]
    simp only [Bool.false_eq_true, if_false]
    split
    · rfl
    · split
      · rfl
      · have : (D.at' a' false).put name data = (D.put name data).at' a' false := by
          unfold Dk.put
          rw [show (D.at' a' false).folder = D.folder from rfl]
          cases kvGet D.folder name <;> rfl
        rw [this]
  · exact Or.inr (by rw [e]; rfl)
end

/-- a replacement on an armed disk: it is done, or it died somewhere -/
theorem replace_arm {files : List Fl} {i o : Nat} {t : Option Nat} {l : ByteArray} {n : Nat} (h : LogSn (stD files i o t) l n files i o t) (recs : List ByteArray) (hs : l.size + (frames recs).size ≤ 900000) (a : Int) (ha : -1 ≤ a) :
    (∃ a', -1 ≤ a' ∧ lgReplace ((stD files i o t).at' a false) recs = ((stD (files ++ [⟨frames recs, (frames recs).size⟩]) files.length o none).at' a' false, 0)) ∨
      ∃ q, RpAt files i o t (frames recs) q ∧ lgReplace ((stD files i o t).at' a false) recs = (q.at' (-1) true, 10) := by
  have h9 : otherData.size = 9 := rfl
  have hroom : ((stD files i o t).flAt i).data.size + ((stD files i o t).flAt o).data.size + (frames recs).size ≤ 1048576 := by rw [h.log, h.oth]; simp only [h9]; omega
  unfold lgReplace
  rcases remove_arm (D := stD files i o t) rfl rfl a ha logTemp with ⟨a1, l1, e⟩ | e
  rotate_left 1
  · exact Or.inr ⟨_, Or.inl rfl, by rw [e]; rfl⟩
  rw [e, rp_1]
  rw [if_pos (by cases t <;> simp)]
  dsimp only
  rcases append_arm (D := rp1 files i o t) rfl rfl a1 l1 logTemp (frames recs) with ⟨a2, l2, e⟩ | e
  rotate_left 1
  · exact Or.inr ⟨_, Or.inr (Or.inl rfl), by rw [e]; rfl⟩
  rw [e, rp_2 _ _ _ _ _ hroom, thenOk_ok rfl]
  dsimp only
  rcases sync_arm (D := rp2 files i o t (frames recs)) rfl rfl a2 l2 logTemp with ⟨a3, l3, e⟩ | e
  rotate_left 1
  · exact Or.inr ⟨_, Or.inr (Or.inr (Or.inl rfl)), by rw [e]; rfl⟩
  rw [e, rp_3, thenOk_ok rfl]
  dsimp only
  rcases rename_arm (D := rp3 files i o t (frames recs)) rfl rfl a3 l3 logTemp logName with ⟨a4, l4, e⟩ | e
  rotate_left 1
  · exact Or.inr ⟨_, Or.inr (Or.inr (Or.inr (Or.inl rfl))), by rw [e]; rfl⟩
  rw [e, rp_4, thenOk_ok rfl]
  dsimp only
  rcases settle_arm (D := rp4 files i o t (frames recs)) rfl rfl a4 l4 with ⟨a5, l5, e⟩ | e
  rotate_left 1
  · exact Or.inr ⟨_, Or.inr (Or.inr (Or.inr (Or.inr rfl))), by rw [e]⟩
  exact Or.inl ⟨a5, l5, by rw [e, rp_5]⟩

/-- what an add has appended -/
def addD (files : List Fl) (i o : Nat) (t : Option Nat) (l s : ByteArray) (n : Nat) : Dk := stD (files.set i ⟨l ++ frame s, n⟩) i o t
theorem add_arm {files : List Fl} {i o : Nat} {t : Option Nat} {l : ByteArray} (h : LogSn (stD files i o t) l l.size files i o t) (s : ByteArray) (hs : l.size + s.size ≤ 900000) (a : Int) (ha : -1 ≤ a) :
    (∃ a', -1 ≤ a' ∧ lgAdd ((stD files i o t).at' a false) s = ((addD files i o t l s (l ++ frame s).size).at' a' false, 0)) ∨
      ∃ q, (q = stD files i o t ∨ q = addD files i o t l s l.size) ∧ lgAdd ((stD files i o t).at' a false) s = (q.at' (-1) true, 10) := by
  have hu : (stD files i o t).used ≤ l.size + 100009 := LogSt.used ⟨rfl, h.io, h.ti, h.il, h.ol, h.log, h.oth⟩
  have hap : (stD files i o t).append logName (frame s) = (addD files i o t l s l.size, 0) := by
    unfold Dk.append
    rw [alive_same rfl rfl, if_neg (by simp [stD]), if_neg (by decide +kernel), if_neg (by rw [show (stD files i o t).room = 1048576 from rfl, frame_size]; omega)]
    unfold Dk.put
    rw [show kvGet (stD files i o t).folder logName = some i from fold_log i o t]
    dsimp only
    rw [h.log]; rfl
  have hsy : (addD files i o t l s l.size).sync logName = (addD files i o t l s (l ++ frame s).size, 0) := by
    unfold Dk.sync
    rw [alive_same rfl rfl, if_neg (by simp [addD, stD]), show kvGet (addD files i o t l s l.size).folder logName = some i from fold_log i o t]
    have : (addD files i o t l s l.size).flAt i = ⟨l ++ frame s, l.size⟩ := by simp [Dk.flAt, addD, stD, List.getD, List.getElem?_set_self h.il]
    dsimp only
    rw [this]
    simp [addD, stD, List.set_set]
  unfold lgAdd
  rcases append_arm (D := stD files i o t) rfl rfl a ha logName (frame s) with ⟨a1, l1, e⟩ | e
  rotate_left 1
  · exact Or.inr ⟨_, Or.inl rfl, by rw [e]; rfl⟩
  rw [e, hap, thenOk_ok rfl]
  dsimp only
  rcases sync_arm (D := addD files i o t l s l.size) rfl rfl a1 l1 logName with ⟨a2, l2, e⟩ | e
  rotate_left 1
  · exact Or.inr ⟨_, Or.inr rfl, by rw [e]⟩
  exact Or.inl ⟨a2, l2, by rw [e, hsy]⟩

theorem addD_sn {files : List Fl} {i o : Nat} {t : Option Nat} {l : ByteArray} (h : LogSn (stD files i o t) l l.size files i o t) (s : ByteArray) (n : Nat) (hn : n ≤ (l ++ frame s).size) :
    LogSn (addD files i o t l s n) (l ++ frame s) n (files.set i ⟨l ++ frame s, n⟩) i o t := by
  refine ⟨rfl, h.io, fun j hj => ?_, by simpa using h.il, by simpa using h.ol, flAt_set_same (D := stD files i o t) _ h.il, (flAt_set_other (D := stD files i o t) _ h.io).trans h.oth, hn⟩
  obtain ⟨h1, h2, h3, h4⟩ := h.ti j hj
  refine ⟨h1, h2, by simpa using h3, ?_⟩
  rw [show (addD files i o t l s n).flAt j = (stD files i o t).flAt j from flAt_set_other (D := stD files i o t) _ (Ne.symm h1)]
  exact h4
/-- a disk of the log, crashed -/
theorem crash_sn {D : Dk} {files : List Fl} {i o : Nat} {t : Option Nat} {l : ByteArray} {n : Nat} (h : LogSn D l n files i o t) (ks : List Int) :
    ∃ m f i2 o2 t2, n ≤ m ∧ m ≤ l.size ∧ LogSt (D.crash ks) (l.extract 0 m) f i2 o2 t2 ∧ f.length ≤ 3 :=
  crash_st D ks i o t l n (by rw [h.eq]; rfl) (by rw [h.eq]; rfl) h.log h.nl h.oth (fun j hj => (h.ti j hj).2.2.2)
end Go.Proofs.Ytjdkhainlcalbaa
