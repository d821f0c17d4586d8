/- The law DiskSafe: its disk, plainly. -/
import Derived.Test.YtjdkhainlcalbaaDo
import Derived.Test.YtjdkhainlcalbaaLawSwaps
import Derived.Test.YtjdkhainlcalbaaLawRoom
namespace Go.Proofs.Ytjdkhainlcalbaa
open Go.RowKit Go.Maps

def nMine : ByteArray := ⟨#[109, 105, 110, 101]⟩
/-- behind k calls of which none is of this file -/
structure SafeI (k : Nat) (D : Dk) : Prop where
  arm : D.arm = -1
  dead : D.dead = false
  room : D.room = 100000
  fs : ∀ f ∈ D.files, f.data.size ≤ 60 * k
  fo : D.folder.length ≤ k
  st : D.sure.length + D.steps.length ≤ k
  fl : D.files.length ≤ k
  nf : ∀ p ∈ D.folder, p.1 ≠ nMine
  ns : ∀ p ∈ D.sure, p.1 ≠ nMine
  np : ∀ s ∈ D.steps, s.src ≠ nMine ∧ s.dst ≠ nMine
theorem SafeI.next {k : Nat} {D : Dk} (h : SafeI k D) : SafeI (k + 1) D :=
  ⟨h.arm, h.dead, h.room, fun f hf => by have := h.fs f hf; omega, by have := h.fo; omega, by have := h.st; omega, by have := h.fl; omega, h.nf, h.ns, h.np⟩
theorem SafeI.at' {k : Nat} {D : Dk} (h : SafeI k D) (i : Nat) : (D.flAt i).data.size ≤ 60 * k := by
  unfold Dk.flAt List.getD
  cases hf : D.files[i]? with
  | none => simp
  | some f => exact h.fs f (List.mem_of_getElem? hf)
theorem SafeI.setF {k : Nat} {D : Dk} (h : SafeI k D) (i : Nat) (f : Fl) (hf : f.data.size ≤ 60 * (k + 1)) : SafeI (k + 1) { D with files := D.files.set i f } :=
  ⟨h.arm, h.dead, h.room, fun g hg => by
    rcases List.mem_or_eq_of_mem_set hg with hg | rfl
    · have := h.fs g hg; omega
    · exact hf, by have := h.fo; show D.folder.length ≤ _; omega, by have := h.st; show D.sure.length + D.steps.length ≤ _; omega, by have := h.fl; simp; omega, h.nf, h.ns, h.np⟩
theorem left_names {D : Dk} (n : ByteArray) (h1 : ∀ p ∈ D.sure, p.1 ≠ n) (h2 : ∀ s ∈ D.steps, s.src ≠ n ∧ s.dst ≠ n) (ks : List Int) : ∀ j, ∀ p ∈ D.leftAt ks j, p.1 ≠ n := by
  intro j
  induction j with
  | zero => exact h1
  | succ j ih =>
    unfold Dk.leftAt
    split
    · exact ih
    · next s hs =>
      have hss := h2 s (List.mem_of_getElem? hs)
      intro p hp
      unfold leftStep at hp
      split at hp
      · exact ih p hp
      · split at hp
        · rcases kvPut_mem hp with rfl | hp
          · exact hss.1
          · exact ih p hp
        · split at hp
          · rcases kvPut_mem hp with rfl | hp
            · exact hss.2
            · exact ih p (kvDel_mem hp)
          · split at hp
            · exact ih p (kvDel_mem hp)
            · exact ih p hp
theorem newFolder_names (D : Dk) (ks : List Int) (j : Nat) (hj : j ≤ (D.leftNames ks).length) : ∀ p ∈ D.newFolder ks j, p.1 ∈ D.leftNames ks := by
  induction j with
  | zero => intro p hp; simp [Dk.newFolder] at hp
  | succ j ih =>
    intro p hp
    unfold Dk.newFolder at hp
    rcases kvPut_mem hp with rfl | hp
    · rw [List.getD, List.getElem?_eq_getElem (by omega)]
      exact List.getElem_mem _
    · exact ih (by omega) p hp
theorem SafeI.crash {k : Nat} {D : Dk} (h : SafeI k D) (ks : List Int) : SafeI (k + 1) (D.crash ks) := by
  have hl : (D.leftNames ks).length ≤ k := by
    unfold Dk.leftNames
    rw [kvNames_len]
    have := D.leftAt_len ks D.steps.length
    have := h.st
    unfold Dk.left; omega
  have hn : ∀ p ∈ D.newFolder ks (D.leftNames ks).length, p.1 ≠ nMine := by
    intro p hp e
    have h1 := newFolder_names D ks _ (Nat.le_refl _) p hp
    rw [e] at h1
    obtain ⟨v, hv⟩ := kvNames_mem h1
    exact left_names nMine h.ns h.np ks _ _ hv rfl
  refine ⟨rfl, rfl, h.room, ?_, ?_, ?_, ?_, hn, hn, fun s hs => by simp [Dk.crash] at hs⟩
  · intro f hf
    obtain ⟨i, _, rfl⟩ := List.mem_map.1 (show f ∈ (List.range _).map _ from hf)
    unfold Dk.leftFile
    dsimp only
    rw [ByteArray.size_extract]
    have := h.at' ((kvGet (D.left ks) ((D.leftNames ks).getD i ByteArray.empty)).getD 0)
    omega
  · have := D.newFolder_len ks (D.leftNames ks).length
    show (D.newFolder ks (D.leftNames ks).length).length ≤ _; omega
  · have := D.newFolder_len ks (D.leftNames ks).length
    show (D.newFolder ks (D.leftNames ks).length).length + 0 ≤ _; omega
  · rw [crash_files]; omega
theorem SafeI.do' {k : Nat} {D : Dk} (h : SafeI k D) (x : Op14) (h6 : x.kind ≠ 6) (hs : x.src ≠ nMine) (hd : x.dst ≠ nMine) : SafeI (k + 1) (dkDo D x).1 := by
  have hal := alive_same h.arm h.dead
  unfold dkDo
  split
  · unfold Dk.append
    rw [hal, h.dead, if_neg (by simp)]
    split
    · exact h.next
    · split
      · exact h.next
      · unfold Dk.put
        have hf := few_size x.dst 60
        split
        · next i hi =>
          refine h.setF i _ ?_
          have := h.at' i
          rw [ByteArray.size_append]; omega
        · refine ⟨h.arm, h.dead, h.room, ?_, ?_, ?_, ?_, ?_, h.ns, ?_⟩
          · intro f hf'
            rcases List.mem_append.1 hf' with hf' | hf'
            · have := h.fs f hf'; omega
            · rw [List.mem_singleton.1 hf']; show (few x.dst 60).size ≤ _; omega
          · have := kvPut_len D.folder x.src D.files.length
            have := h.fo
            show (kvPut D.folder x.src D.files.length).length ≤ _; omega
          · have := h.st
            simp; omega
          · have := h.fl
            simp; omega
          · intro p hp
            rcases kvPut_mem hp with rfl | hp
            · exact hs
            · exact h.nf p hp
          · intro s hs'
            rcases List.mem_append.1 hs' with hs' | hs'
            · exact h.np s hs'
            · rw [List.mem_singleton.1 hs']; exact ⟨hs, hs⟩
  · split
    · unfold Dk.sync
      rw [hal, h.dead, if_neg (by simp)]
      split
      · next i hi => exact h.setF i _ (by have := h.at' i; show (D.flAt i).data.size ≤ _; omega)
      · exact h.next
    · split
      · unfold Dk.rename
        rw [hal, h.dead, if_neg (by simp)]
        split
        · next i hi =>
          split
          · exact h.next
          · refine ⟨h.arm, h.dead, h.room, fun f hf => by have := h.fs f hf; omega, ?_, ?_, by have := h.fl; show D.files.length ≤ _; omega, ?_, h.ns, ?_⟩
            · have h1 := kvPut_len (kvDel D.folder x.src) x.dst i
              have h2 := kvDel_len D.folder x.src
              have := h.fo
              show (kvPut (kvDel D.folder x.src) x.dst i).length ≤ _; omega
            · have := h.st
              simp; omega
            · intro p hp
              rcases kvPut_mem hp with rfl | hp
              · exact hd
              · exact h.nf p (kvDel_mem hp)
            · intro s hs'
              rcases List.mem_append.1 hs' with hs' | hs'
              · exact h.np s hs'
              · rw [List.mem_singleton.1 hs']; exact ⟨hs, hd⟩
        · exact h.next
      · split
        · unfold Dk.remove
          rw [hal, h.dead, if_neg (by simp)]
          split
          · next i hi =>
            refine ⟨h.arm, h.dead, h.room, fun f hf => by have := h.fs f hf; omega, ?_, ?_, by have := h.fl; show D.files.length ≤ _; omega, ?_, h.ns, ?_⟩
            · have h2 := kvDel_len D.folder x.src
              have := h.fo
              show (kvDel D.folder x.src).length ≤ _; omega
            · have := h.st
              simp; omega
            · intro p hp
              exact h.nf p (kvDel_mem hp)
            · intro s hs'
              rcases List.mem_append.1 hs' with hs' | hs'
              · exact h.np s hs'
              · rw [List.mem_singleton.1 hs']; exact ⟨hs, hs⟩
          · exact h.next
        · split
          · unfold Dk.settle
            rw [hal, h.dead, if_neg (by simp)]
            exact ⟨h.arm, h.dead, h.room, fun f hf => by have := h.fs f hf; omega, by have := h.fo; show D.folder.length ≤ _; omega, by have := h.fo; show D.folder.length + 0 ≤ _; omega, by have := h.fl; show D.files.length ≤ _; omega, h.nf, h.nf, fun s hs => by simp at hs⟩
          · split
            · unfold Dk.spoil
              split
              · exact h.next
              · next i hi =>
                split
                · exact h.next
                · next hk =>
                  refine h.setF i _ ?_
                  have := h.at' i
                  show (spoilB (D.flAt i).data x.at'.toNat _).size ≤ _
                  rw [spoilB_size _ _ _ (by omega)]; omega
            · split
              · exact h.crash x.ks
              · exact h.next

theorem app_nil' (a : ByteArray) : a ++ ⟨#[]⟩ = a := by apply ByteArray.ext; simp
/-- behind the appends of this file -/
structure MineI (D : Dk) (data all : ByteArray) : Prop where
  arm : D.arm = -1
  dead : D.dead = false
  room : D.room = 100000
  st : D.steps = []
  fs : ∀ f ∈ D.files, f.data.size ≤ 2400
  fo : D.folder.length ≤ 41
  fl : D.files.length ≤ 41
  ex : ∃ n, n < D.files.length ∧ kvGet D.folder nMine = some n ∧ kvGet D.sure nMine = some n ∧ D.flAt n = ⟨all, data.size⟩
  pre : ∃ t, all = data ++ t
theorem MineI.used {D : Dk} {data all : ByteArray} (h : MineI D data all) : D.used ≤ 98400 := by
  have h1 := kvSum_le (fun i => (D.flAt i).data.size) D.folder 2400 (fun p _ => by
    unfold Dk.flAt List.getD
    cases hf : D.files[p.2]? with
    | none => simp
    | some f => exact h.fs f (List.mem_of_getElem? hf))
  have h2 := h.fo
  unfold Dk.used
  omega
theorem mine_ok : dkName nMine = true := by decide +kernel
theorem mine_start {D : Dk} (h : SafeI 40 D) (hok : DkOk D) (data : ByteArray) (hd : data.size ≤ 200) :
    ∃ D1 D2 D3, D.append nMine data = (D1, 0) ∧ D1.sync nMine = (D2, 0) ∧ D2.settle = (D3, 0) ∧ MineI D3 data data ∧ D1.small 100 ∧ D2.small 100 := by
  have hg : kvGet D.folder nMine = none := kvGet_none_of h.nf
  have hu : D.used ≤ 96000 := by
    have h1 := kvSum_le (fun i => (D.flAt i).data.size) D.folder 2400 (fun p _ => h.at' p.2)
    have h2 := h.fo
    unfold Dk.used
    omega
  have hal := alive_same h.arm h.dead
  have hfo := h.fo
  have hfl := h.fl
  have hst := h.st
  have e1 : D.append nMine data = ({ D with files := D.files ++ [⟨data, 0⟩], folder := kvPut D.folder nMine D.files.length, steps := D.steps ++ [⟨1, nMine, nMine, D.files.length⟩] }, 0) := by
    unfold Dk.append
    rw [hal, if_neg (by simp [h.dead]), mine_ok, if_neg (by simp), if_neg (by rw [h.room]; omega)]
    unfold Dk.put
    rw [hg]
  have g1 : kvGet (kvPut D.folder nMine D.files.length) nMine = some D.files.length := kvPut_get _ _ _ hok.fap
  have f1 : ∀ (E : Dk), E.files = D.files ++ [⟨data, 0⟩] → E.flAt D.files.length = ⟨data, 0⟩ := fun E he => by simp [Dk.flAt, he, List.getD]
  refine ⟨_, { D with files := D.files ++ [⟨data, data.size⟩], folder := kvPut D.folder nMine D.files.length, steps := D.steps ++ [⟨1, nMine, nMine, D.files.length⟩] }, { D with files := D.files ++ [⟨data, data.size⟩], folder := kvPut D.folder nMine D.files.length, sure := kvPut D.folder nMine D.files.length, steps := [] }, e1, ?_, ?_, ⟨h.arm, h.dead, h.room, rfl, ?_, ?_, ?_, ⟨D.files.length, by simp, g1, g1, ?_⟩, ⟨⟨#[]⟩, (app_nil' data).symm⟩⟩, ⟨by simp; omega, by simp; omega⟩, ⟨by simp; omega, by simp; omega⟩⟩
  · unfold Dk.sync
    rw [alive_same (D := { D with files := D.files ++ [⟨data, 0⟩], folder := kvPut D.folder nMine D.files.length, steps := D.steps ++ [⟨1, nMine, nMine, D.files.length⟩] }) h.arm h.dead, if_neg (by simp [h.dead])]
    dsimp only
    rw [g1]
    dsimp only
    rw [f1 _ rfl, List.set_append_right _ _ (Nat.le_refl _)]
    simp
  · unfold Dk.settle
    rw [alive_same (D := { D with files := D.files ++ [⟨data, data.size⟩], folder := kvPut D.folder nMine D.files.length, steps := D.steps ++ [⟨1, nMine, nMine, D.files.length⟩] }) h.arm h.dead, if_neg (by simp [h.dead])]
  · intro f hf
    rcases List.mem_append.1 hf with hf | hf
    · have := h.fs f hf; omega
    · rw [List.mem_singleton.1 hf]; show data.size ≤ _; omega
  · have := kvPut_len D.folder nMine D.files.length
    show (kvPut D.folder nMine D.files.length).length ≤ _; omega
  · simp; omega
  · simp [Dk.flAt, List.getD]
theorem mine_more {D : Dk} {data all s : ByteArray} (h : MineI D data all) (hz : all.size + s.size ≤ 2400) (hs : s.size ≤ 100) :
    ∃ D1, D.append nMine s = (D1, 0) ∧ MineI D1 data (all ++ s) := by
  obtain ⟨n, hn, g1, g2, g3⟩ := h.ex
  have hu := h.used
  have hal := alive_same h.arm h.dead
  refine ⟨{ D with files := D.files.set n ⟨all ++ s, data.size⟩ }, ?_, ⟨h.arm, h.dead, h.room, h.st, ?_, h.fo, by simpa using h.fl, ⟨n, by simpa using hn, g1, g2, ?_⟩, ?_⟩⟩
  · unfold Dk.append
    rw [hal, if_neg (by simp [h.dead]), mine_ok, if_neg (by simp), if_neg (by rw [h.room]; omega)]
    unfold Dk.put
    rw [g1]
    dsimp only
    rw [g3]
  · intro f hf
    rcases List.mem_or_eq_of_mem_set hf with hf | rfl
    · exact h.fs f hf
    · show (all ++ s).size ≤ _; rw [ByteArray.size_append]; omega
  · simp [Dk.flAt, List.getD, List.getElem?_set_self hn]
  · obtain ⟨t, rfl⟩ := h.pre
    exact ⟨t ++ s, ByteArray.append_assoc⟩
theorem mine_crash {D : Dk} {data all : ByteArray} (h : MineI D data all) (hok : DkOk D) (ks : List Int) :
    ∃ m, data.size ≤ m ∧ m ≤ all.size ∧ (D.crash ks).read nMine = (all.extract 0 m, 0) ∧ ((D.crash ks).crash ks).read nMine = (all.extract 0 m, 0) ∧ (D.crash ks).small 400000 := by
  obtain ⟨n, hn, g1, g2, g3⟩ := h.ex
  have hl : D.left ks = D.sure := by unfold Dk.left; rw [h.st]; rfl
  have hds : data.size ≤ all.size := by obtain ⟨t, rfl⟩ := h.pre; rw [ByteArray.size_append]; omega
  obtain ⟨i, hi, e1, hf, hr, hlf⟩ := crash_read D ks nMine n (by rw [hl]; exact hok.sap) (by rw [hl]; exact g2)
  rw [g3] at hr hlf
  have k1 : (D.flAt n).safe ≤ D.keepN ks i n := by unfold Dk.keepN; omega
  have k2 := keepN_le hok ks i n
  rw [g3] at k1 k2
  simp only at k1 k2 hr hlf
  refine ⟨D.keepN ks i n, k1, k2, hr, ?_, small_crash ks ?_⟩
  · have hfl : (D.crash ks).flAt i = ⟨all.extract 0 (D.keepN ks i n), D.keepN ks i n⟩ := by
      rw [crash_flAt D ks i hi]
      unfold Dk.newFl
      rw [e1, hlf]
    have h2 := (crash_whole (D.crash ks) ks nMine i (by show kvApart (D.newFolder ks _); exact newFolder_apart D ks _) (show kvGet (D.crash ks).folder nMine = some i from hf) (by rw [hfl]; show D.keepN ks i n = (all.extract 0 _).size; rw [ByteArray.size_extract]; omega)).1
    rw [hfl] at h2
    exact h2
  · rw [h.st]
    have := hok.sln
    have := h.fl
    simp; omega
end Go.Proofs.Ytjdkhainlcalbaa
