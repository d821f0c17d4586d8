/- The law DiskSwaps: its disk. -/
import Derived.Test.YtjdkhainlcalbaaDi
namespace Go.Proofs.Ytjdkhainlcalbaa
open Go.RowKit Go.Maps

/-- the disk ahead of the crash -/
def swF (old fresh : ByteArray) : List Fl := [⟨old, old.size⟩, ⟨fresh, fresh.size⟩]
def swD (old fresh : ByteArray) : Dk := ⟨1000, swF old fresh, [(nA, 1)], [(nA, 0)], [⟨1, nB, nB, 1⟩, ⟨2, nB, nA, 1⟩], -1, false⟩
def swS (old fresh : ByteArray) : Dk := ⟨1000, swF old fresh, [(nA, 1)], [(nA, 1)], [], -1, false⟩
def sw1 (old : ByteArray) : Dk := ⟨1000, [⟨old, 0⟩], [(nA, 0)], [], [⟨1, nA, nA, 0⟩], -1, false⟩
def sw2 (old : ByteArray) : Dk := ⟨1000, [⟨old, old.size⟩], [(nA, 0)], [], [⟨1, nA, nA, 0⟩], -1, false⟩
def sw3 (old : ByteArray) : Dk := ⟨1000, [⟨old, old.size⟩], [(nA, 0)], [(nA, 0)], [], -1, false⟩
def sw4 (old fresh : ByteArray) : Dk := ⟨1000, [⟨old, old.size⟩, ⟨fresh, 0⟩], [(nA, 0), (nB, 1)], [(nA, 0)], [⟨1, nB, nB, 1⟩], -1, false⟩
def sw5 (old fresh : ByteArray) : Dk := ⟨1000, swF old fresh, [(nA, 0), (nB, 1)], [(nA, 0)], [⟨1, nB, nB, 1⟩], -1, false⟩

theorem sw_1 (old : ByteArray) (h : old.size ≤ 100) : (dkNew 1000).append nA old = (sw1 old, 0) := by
  have h1 : ¬ (1000 : Int) - ((0 : Nat) : Int) < old.size := by omega
  show (if false = true then _ else if dkName nA = false then _ else if (1000 : Int) - ((0 : Nat) : Int) < old.size then _ else _) = _
  rw [if_neg (by simp), if_neg (by decide +kernel), if_neg h1]; rfl
theorem sw_2 (old : ByteArray) : (sw1 old).sync nA = (sw2 old, 0) := rfl
theorem sw_3 (old : ByteArray) : (sw2 old).settle = (sw3 old, 0) := rfl
theorem sw_4 (old fresh : ByteArray) (ho : old.size ≤ 100) (h : fresh.size ≤ 100) : (sw3 old).append nB fresh = (sw4 old fresh, 0) := by
  have hu : (sw3 old).used = old.size := by show old.size + 0 = _; omega
  have h1 : ¬ (1000 : Int) - ((sw3 old).used : Int) < fresh.size := by rw [hu]; omega
  show (if false = true then _ else if dkName nB = false then _ else if (1000 : Int) - ((sw3 old).used : Int) < fresh.size then _ else _) = _
  rw [if_neg (by simp), if_neg (by decide +kernel), if_neg h1]; rfl
theorem sw_5 (old fresh : ByteArray) : (sw4 old fresh).sync nB = (sw5 old fresh, 0) := rfl
theorem sw_6 (old fresh : ByteArray) : (sw5 old fresh).rename nB nA = (swD old fresh, 0) := by
  have h : kvGet (sw5 old fresh).folder nB = some 1 := rfl
  have hd : (sw5 old fresh).alive.dead = false := rfl
  have hn : dkName nA = true := by decide +kernel
  unfold Dk.rename
  rw [if_neg (by rw [hd]; simp), h]
  exact if_neg (by rw [hn]; simp)
theorem sw_7 (old fresh : ByteArray) : (swD old fresh).settle = (swS old fresh, 0) := rfl

/-- a file that is safe whole is left whole -/
theorem keepN_safe (D : Dk) (ks : List Int) (i id : Nat) (h : (D.flAt id).safe = (D.flAt id).data.size) : D.keepN ks i id = (D.flAt id).data.size := by
  unfold Dk.keepN
  rw [h, Nat.sub_self]
  have := Int.emod_one (sayI ks (D.steps.length + i))
  rw [show ((0 + 1 : Nat) : Int) = 1 from rfl, this]; rfl
theorem extract_all (s : ByteArray) : s.extract 0 s.size = s := by
  apply ByteArray.ext
  simp
theorem leftFile_safe (D : Dk) (ks : List Int) (i id : Nat) (name : ByteArray) (hg : kvGet (D.left ks) name = some id) (h : (D.flAt id).safe = (D.flAt id).data.size) : D.leftFile ks i name = ⟨(D.flAt id).data, (D.flAt id).data.size⟩ := by
  unfold Dk.leftFile
  rw [hg]
  show (⟨(D.flAt id).data.extract 0 (D.keepN ks i id), D.keepN ks i id⟩ : Fl) = _
  rw [keepN_safe D ks i id h, extract_all]
theorem kvPut_get {α : Type} (l : List (ByteArray × α)) (k : ByteArray) (v : α) (ha : kvApart l) : kvGet (kvPut l k v) k = some v :=
  kvGet_of_mem (kvApart_put k v ha) ((kvPut_perm l k v).mem_iff.2 (by simp))
theorem kvPut_get_other {α : Type} (l : List (ByteArray × α)) (k q : ByteArray) (v u : α) (ha : kvApart l) (hq : k ≠ q) (hg : kvGet l k = some u) : kvGet (kvPut l q v) k = some u :=
  kvGet_of_mem (kvApart_put q v ha) ((kvPut_perm l q v).mem_iff.2 (List.mem_cons_of_mem _ (List.mem_filter.2 ⟨kvGet_mem hg, by simpa using hq⟩)))
/-- the new folder has each name that is left, with its place -/
theorem newFolder_get (D : Dk) (ks : List Int) (hn : (D.leftNames ks).Nodup) (k : Nat) (hk : k ≤ (D.leftNames ks).length) : ∀ i (h : i < k), kvGet (D.newFolder ks k) ((D.leftNames ks)[i]'(by omega)) = some i := by
  induction k with
  | zero => intro i h; omega
  | succ k ih =>
    intro i h
    unfold Dk.newFolder
    have e : (D.leftNames ks).getD k ByteArray.empty = (D.leftNames ks)[k]'(by omega) := by rw [List.getD, List.getElem?_eq_getElem (by omega)]; rfl
    rw [e]
    by_cases hi : i = k
    · subst hi
      exact kvPut_get _ _ _ (newFolder_apart D ks i)
    · refine kvPut_get_other _ _ _ _ _ (newFolder_apart D ks k) ?_ (ih (by omega) i (by omega))
      intro e2
      exact List.pairwise_iff_getElem.1 hn i k (by omega) (by omega) (by omega) e2
theorem kvNames_has {α : Type} {l : List (ByteArray × α)} {s : ByteArray} {v : α} (h : (s, v) ∈ l) : s ∈ kvNames l := by
  unfold kvNames
  refine List.mem_map.2 ⟨s.data.toList, (List.mergeSort_perm _ _).mem_iff.2 (List.mem_map.2 ⟨_, h, rfl⟩), ?_⟩
  exact ByteArray.ext (by simp [kvNames.strM])
/-- what is read behind a crash -/
theorem crash_read (D : Dk) (ks : List Int) (name : ByteArray) (id : Nat) (ha : kvApart (D.left ks)) (hg : kvGet (D.left ks) name = some id) :
    ∃ i, i < (D.leftNames ks).length ∧ (D.leftNames ks).getD i ByteArray.empty = name ∧ kvGet (D.crash ks).folder name = some i ∧ (D.crash ks).read name = ((D.flAt id).data.extract 0 (D.keepN ks i id), 0) ∧ D.leftFile ks i name = ⟨(D.flAt id).data.extract 0 (D.keepN ks i id), D.keepN ks i id⟩ := by
  have hm : name ∈ D.leftNames ks := kvNames_has (kvGet_mem hg)
  obtain ⟨i, hi, e⟩ := List.getElem_of_mem hm
  have hf := newFolder_get D ks (kvNames_nodup ha) _ (Nat.le_refl _) i hi
  rw [e] at hf
  have e2 : (D.leftNames ks).getD i ByteArray.empty = name := by rw [List.getD, List.getElem?_eq_getElem hi]; exact e
  have hl : D.leftFile ks i name = ⟨(D.flAt id).data.extract 0 (D.keepN ks i id), D.keepN ks i id⟩ := by unfold Dk.leftFile; rw [hg]; rfl
  refine ⟨i, hi, e2, hf, ?_, hl⟩
  unfold Dk.read
  have hd : (D.crash ks).dead = false := rfl
  rw [hd]
  have hf' : kvGet (D.crash ks).folder name = some i := hf
  rw [if_neg (by simp), hf']
  show (((D.crash ks).flAt i).data, (0 : Int)) = _
  rw [crash_flAt D ks i hi]
  unfold Dk.newFl
  rw [e2, hl]

/-- a file that was safe whole is read whole behind a crash -/
theorem crash_whole (D : Dk) (ks : List Int) (name : ByteArray) (id : Nat) (ha : kvApart (D.left ks)) (hg : kvGet (D.left ks) name = some id) (h : (D.flAt id).safe = (D.flAt id).data.size) :
    (D.crash ks).read name = ((D.flAt id).data, 0) ∧ (D.flAt id).data.size ≤ (D.crash ks).used := by
  obtain ⟨i, hi, e, hf, hr, hl⟩ := crash_read D ks name id ha hg
  rw [keepN_safe D ks i id h, extract_all] at hr hl
  refine ⟨hr, ?_⟩
  have hu := used_ge hf (newFolder_apart D ks _)
  rw [crash_flAt D ks i hi] at hu
  unfold Dk.newFl at hu
  rw [e, hl] at hu
  exact hu
theorem apart1 (i : Nat) : kvApart [(nA, i)] := List.pairwise_singleton _ _
theorem apart2 : kvApart [(nA, 0), (nB, 1)] := by
  refine List.pairwise_cons.2 ⟨fun p hp => ?_, List.pairwise_singleton _ _⟩
  rw [List.mem_singleton.1 hp]; decide +kernel
theorem sw_left (o f : ByteArray) (ks : List Int) : (swD o f).left ks = [(nA, 0)] ∨ (swD o f).left ks = [(nA, 0), (nB, 1)] ∨ (swD o f).left ks = [(nA, 1)] := by
  have e : (swD o f).left ks = leftStep ks (leftStep ks [(nA, 0)] 0 ⟨1, nB, nB, 1⟩) 1 ⟨2, nB, nA, 1⟩ := rfl
  rw [e]
  by_cases h0 : sayI ks 0 % 2 = 0
  · rw [leftStep_skip _ h0, leftStep_none (show kvGet [(nA, 0)] nB = none by decide +kernel) (by decide)]
    exact Or.inl rfl
  · rw [leftStep_put h0 (show kvGet [(nA, 0)] nB = none by decide +kernel), show kvPut [(nA, 0)] nB 1 = [(nA, 0), (nB, 1)] by decide +kernel]
    by_cases h1 : sayI ks 1 % 2 = 0
    · rw [leftStep_skip _ h1]; exact Or.inr (Or.inl rfl)
    · rw [leftStep_ren h1 (show kvGet [(nA, 0), (nB, 1)] nB = some 1 by decide +kernel), show kvPut (kvDel [(nA, 0), (nB, 1)] nB) nA 1 = [(nA, 1)] by decide +kernel]
      exact Or.inr (Or.inr rfl)
theorem sw_read (o f : ByteArray) (ks : List Int) : ∃ s, ((swD o f).crash ks).read nA = (s, 0) ∧ (s = o ∨ s = f) ∧ s.size ≤ ((swD o f).crash ks).used := by
  rcases sw_left o f ks with e | e | e
  · have := crash_whole (swD o f) ks nA 0 (by rw [e]; exact apart1 0) (by rw [e]; rfl) rfl
    exact ⟨o, this.1, Or.inl rfl, this.2⟩
  · have := crash_whole (swD o f) ks nA 0 (by rw [e]; exact apart2) (by rw [e]; rfl) rfl
    exact ⟨o, this.1, Or.inl rfl, this.2⟩
  · have := crash_whole (swD o f) ks nA 1 (by rw [e]; exact apart1 1) (by rw [e]; rfl) rfl
    exact ⟨f, this.1, Or.inr rfl, this.2⟩
theorem sw_readS (o f : ByteArray) (ks : List Int) : ((swS o f).crash ks).read nA = (f, 0) ∧ f.size ≤ ((swS o f).crash ks).used :=
  crash_whole (swS o f) ks nA 1 (apart1 1) rfl rfl
theorem sw_used_le (D : Dk) (ks : List Int) (h : DkOk D) (hs : D.sure.length + D.steps.length ≤ 400000) : (D.crash ks).used ≤ 1125899906842624 := by
  refine used_le (h.crash ks) ?_
  have := D.leftAt_len ks D.steps.length
  rw [crash_files]; unfold Dk.leftNames Dk.left; rw [kvNames_len]; omega
end Go.Proofs.Ytjdkhainlcalbaa
