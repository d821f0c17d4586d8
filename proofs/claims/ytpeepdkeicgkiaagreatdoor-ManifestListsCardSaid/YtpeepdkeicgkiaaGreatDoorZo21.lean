/- A disk at rest: what Publish, Remove, Settle and a crash make of it, plainly. A disk at rest: Remove, Settle, a crash, plainly. -/
import Derived.Test.YtpeepdkeicgkiaaGreatDoorZo18
namespace Go.Proofs.YtpeepdkeicgkiaaGreatDoor
set_option linter.unusedVariables false
set_option linter.unusedSimpArgs false
set_option linter.unusedSectionVars false
open Go.RowKit Go.Maps

theorem alive_selfP {D : Dk} (ar : D.arm = -1) (dd : D.dead = false) : D.alive = D := by
  obtain ⟨r, f, fo, su, st, a, d⟩ := D
  simp only at ar dd
  subst ar dd
  rfl
/-- what a name leads to -/
def Dk.has (D : Dk) (n : ByteArray) : Option ByteArray := (kvGet D.folder n).map fun i => (D.flAt i).data
def readO : Option ByteArray → ByteArray × Int
  | some s => (s, 0)
  | none => (⟨#[]⟩, 7)
theorem read_has {D : Dk} (hd : D.dead = false) (n : ByteArray) : D.read n = readO (D.has n) := by
  unfold Dk.read Dk.has
  rw [if_neg (by simp [hd])]
  cases kvGet D.folder n <;> rfl
/-- names by which there is something -/
theorem has_mem {D : Dk} (ha : kvApart D.folder) (n : ByteArray) : (D.has n).isSome = true ↔ n ∈ kvNames D.folder := by
  unfold Dk.has
  rw [Option.isSome_map]
  constructor
  · intro h
    obtain ⟨i, hi⟩ := Option.isSome_iff_exists.1 h
    exact kvNames_has (kvGet_mem hi)
  · intro h
    obtain ⟨i, hi⟩ := kvNames_mem h
    rw [kvGet_of_mem ha hi]; rfl
theorem mem_nodup_perm {α : Type} [BEq α] [LawfulBEq α] {l m : List α} (hl : l.Nodup) (hm : m.Nodup) (h : ∀ x, x ∈ l ↔ x ∈ m) : l.Perm m := (List.perm_ext_iff_of_nodup hl hm).2 h
/-- the same names, the same rising list -/
theorem names_same {D E : Dk} (hD : kvApart D.folder) (hE : kvApart E.folder) (h : ∀ n, (D.has n).isSome = (E.has n).isSome) : kvNames D.folder = kvNames E.folder := by
  unfold kvNames
  refine congrArg _ (kvSort_perm (mem_nodup_perm ?_ ?_ ?_))
  · exact nodup_keys hD
  · exact nodup_keys hE
  · intro x
    have h1 := has_mem hD ⟨x.toArray⟩
    have h2 := has_mem hE ⟨x.toArray⟩
    rw [h] at h1
    have h3 := h1.symm.trans h2
    rw [mem_keys, mem_keys]
    exact h3
where
  nodup_keys {l : List (ByteArray × Nat)} (h : kvApart l) : (l.map (·.1.data.toList)).Nodup := by
    unfold List.Nodup
    rw [List.pairwise_map]
    exact h.imp fun hne e => hne (ByteArray.ext (Array.toList_inj.1 e))
  mem_keys {l : List (ByteArray × Nat)} {x : List UInt8} : x ∈ l.map (·.1.data.toList) ↔ (⟨x.toArray⟩ : ByteArray) ∈ kvNames l := by
    constructor
    · intro h
      obtain ⟨p, hp, rfl⟩ := List.mem_map.1 h
      have := kvNames_has (s := p.1) (v := p.2) hp
      have e : (⟨p.1.data.toList.toArray⟩ : ByteArray) = p.1 := ByteArray.ext (by simp)
      rw [e]; exact this
    · intro h
      obtain ⟨v, hv⟩ := kvNames_mem h
      exact List.mem_map.2 ⟨_, hv, by simp⟩
theorem kvGet_put {α : Type} (l : List (ByteArray × α)) (k q : ByteArray) (v : α) (ha : kvApart l) : kvGet (kvPut l k v) q = if q = k then some v else kvGet l q := by
  by_cases h : q = k
  · subst h; rw [if_pos rfl]; exact kvPut_get l q v ha
  · rw [if_neg h]
    cases hq : kvGet l q with
    | some u => exact kvPut_get_other l q k v u ha h hq
    | none =>
      refine kvGet_none_of fun p hp => ?_
      rcases kvPut_mem hp with rfl | hp
      · exact fun e => h e.symm
      · exact kvGet_none_ne hq p hp
theorem kvGet_del {α : Type} (l : List (ByteArray × α)) (k q : ByteArray) : kvGet (kvDel l k) q = if q = k then none else kvGet l q := by
  by_cases h : q = k
  · subst h; rw [if_pos rfl]
    exact kvGet_none_of fun p hp => kvDel_no p hp
  · rw [if_neg h]
    unfold kvGet kvDel
    induction l with
    | nil => rfl
    | cons x r ih =>
      by_cases hx : x.1 = k
      · rw [List.filter_cons_of_neg (by simpa using hx), List.find?_cons_of_neg (by simp [hx]; exact fun e => h e.symm)]
        exact ih
      · rw [List.filter_cons_of_pos (by simpa using hx)]
        by_cases hq : x.1 = q
        · rw [List.find?_cons_of_pos (by simpa using hq), List.find?_cons_of_pos (by simpa using hq)]
        · rw [List.find?_cons_of_neg (by simpa using hq), List.find?_cons_of_neg (by simpa using hq)]
          exact ih
theorem kvDel_ins {α : Type} (k : ByteArray) (v : α) : ∀ l : List (ByteArray × α), kvDel (kvIns (k, v) l) k = kvDel l k
  | [] => by simp [kvIns, kvDel]
  | y :: r => by
    unfold kvIns
    split
    · unfold kvDel
      rw [List.filter_cons_of_neg (by simp)]
    · have ih := kvDel_ins k v r
      unfold kvDel at ih ⊢
      by_cases hy : y.1 = k
      · rw [List.filter_cons_of_neg (by simpa using hy), List.filter_cons_of_neg (by simpa using hy), ih]
      · rw [List.filter_cons_of_pos (by simpa using hy), List.filter_cons_of_pos (by simpa using hy), ih]
theorem kvDel_put {α : Type} (l : List (ByteArray × α)) (k : ByteArray) (v : α) (h : kvGet l k = none) : kvDel (kvPut l k v) k = l := by
  unfold kvPut
  rw [kvDel_ins, kvDel_noop (kvGet_none_ne h), kvDel_noop (kvGet_none_ne h)]

/-- nothing is being made, nothing can die; so much room; at most N names, F files, S steps, no file longer than Z -/
structure Calm (D : Dk) (R : Int) (N F S Z : Nat) : Prop where
  dead : D.dead = false
  arm : D.arm = -1
  room : D.room = R
  safe : ∀ p ∈ D.folder, (D.flAt p.2).safe = (D.flAt p.2).data.size
  big : ∀ p ∈ D.folder, (D.flAt p.2).data.size ≤ Z
  num : D.folder.length ≤ N
  fl : D.files.length ≤ F
  st : D.steps.length ≤ S
  tmp : kvGet D.folder tmpN = none
/-- .. and all of it is sure -/
structure Rest (D : Dk) (R : Int) (N F Z : Nat) : Prop where
  calm : Calm D R N F 0 Z
  sure : D.sure = D.folder
  ok : DkOk D
theorem Rest.steps {D : Dk} {R : Int} {N F Z : Nat} (h : Rest D R N F Z) : D.steps = [] := List.length_eq_zero_iff.1 (by have := h.calm.st; omega)
theorem Rest.new (R : Int) (hR : 0 ≤ R ∧ R ≤ 1073741824) (Z : Nat) : Rest (dkNew R) R 0 0 Z :=
  ⟨⟨rfl, rfl, rfl, fun p hp => by simp [dkNew] at hp, fun p hp => by simp [dkNew] at hp, Nat.le_refl _, Nat.le_refl _, Nat.le_refl _, rfl⟩, rfl,
    ⟨fun p hp => by simp [dkNew] at hp, fun p hp => by simp [dkNew] at hp, fun p hp => by simp [dkNew] at hp, List.Pairwise.nil, List.Pairwise.nil, Nat.le_refl _, Nat.le_refl _, fun p hp => by simp [dkNew] at hp, by simp [dkNew], hR, fun p hp => by simp [dkNew] at hp, fun p hp => by simp [dkNew] at hp⟩⟩
theorem Rest.mono {D : Dk} {R : Int} {N F Z N' F' : Nat} (h : Rest D R N F Z) (hN : N ≤ N') (hF : F ≤ F') : Rest D R N' F' Z :=
  ⟨⟨h.calm.dead, h.calm.arm, h.calm.room, h.calm.safe, h.calm.big, Nat.le_trans h.calm.num hN, Nat.le_trans h.calm.fl hF, h.calm.st, h.calm.tmp⟩, h.sure, h.ok⟩
theorem has_new (R : Int) (n : ByteArray) : (dkNew R).has n = none := rfl
theorem Calm.used {D : Dk} {R : Int} {N F S Z : Nat} (h : Calm D R N F S Z) : D.used ≤ N * Z := by
  have h1 := kvSum_le (fun i => (D.flAt i).data.size) D.folder Z (fun p hp => h.big p hp)
  exact Nat.le_trans h1 (Nat.mul_le_mul_right _ h.num)
/-- the folder with one file more, whole and safe -/
def Dk.pub (D : Dk) (name data : ByteArray) : Dk := { D with files := D.files ++ [⟨data, data.size⟩], folder := kvPut D.folder name D.files.length, sure := kvPut D.folder name D.files.length, steps := [] }
theorem flAt_old {D : Dk} (l : List Fl) {i : Nat} (h : i < D.files.length) (D2 : Dk) (h2 : D2.files = D.files ++ l) : D2.flAt i = D.flAt i := by
  unfold Dk.flAt; rw [h2]; simp [List.getD, List.getElem?_append_left h]
theorem pub_new (D : Dk) (name data : ByteArray) : (D.pub name data).flAt D.files.length = ⟨data, data.size⟩ := by
  unfold Dk.flAt Dk.pub; simp [List.getD]
theorem pub_old {D : Dk} {i : Nat} (h : i < D.files.length) (name data : ByteArray) : (D.pub name data).flAt i = D.flAt i := flAt_old _ h _ rfl
theorem pub_has {D : Dk} (ok : DkOk D) (name data n : ByteArray) : (D.pub name data).has n = if n = name then some data else D.has n := by
  unfold Dk.has
  show (kvGet (kvPut D.folder name D.files.length) n).map _ = _
  rw [kvGet_put _ _ _ _ ok.fap]
  split
  · rw [Option.map_some, pub_new]
  · cases hg : kvGet D.folder n with
    | none => rfl
    | some i => rw [Option.map_some, Option.map_some, pub_old (ok.fol _ (kvGet_mem hg))]
theorem dkName_size {n : ByteArray} (h : dkName n = true) : n.size ≤ 80 := by
  unfold dkName at h
  simp only [Bool.and_eq_true, decide_eq_true_eq] at h
  exact h.2
theorem pub_rest {D : Dk} {R : Int} {N F Z : Nat} (h : Rest D R N F Z) {name data : ByteArray} (hn : dkName name = true) (ht : name ≠ tmpN) (hz : data.size ≤ Z) (hZ : Z ≤ 1073741824) : Rest (D.pub name data) R (N + 1) (F + 1) Z := by
  have hm : ∀ p ∈ (D.pub name data).folder, p = (name, D.files.length) ∨ p ∈ D.folder := fun p hp => kvPut_mem hp
  have hlen : (D.pub name data).files.length = D.files.length + 1 := by simp [Dk.pub]
  have hpl : (D.pub name data).folder.length ≤ D.folder.length + 1 := kvPut_len _ _ _
  refine ⟨⟨h.calm.dead, h.calm.arm, h.calm.room, ?_, ?_, ?_, ?_, Nat.zero_le _, ?_⟩, rfl, ⟨?_, ?_, ?_, ?_, ?_, ?_, ?_, ?_, h.ok.arm, h.ok.rm, ?_, ?_⟩⟩
  · intro p hp
    rcases hm p hp with rfl | hp
    · rw [pub_new]
    · rw [pub_old (h.ok.fol p hp)]; exact h.calm.safe p hp
  · intro p hp
    rcases hm p hp with rfl | hp
    · rw [pub_new]; exact hz
    · rw [pub_old (h.ok.fol p hp)]; exact h.calm.big p hp
  · have := h.calm.num; omega
  · have := h.calm.fl; omega
  · show kvGet (kvPut D.folder name D.files.length) tmpN = none
    rw [kvGet_put _ _ _ _ h.ok.fap, if_neg (fun e => ht e.symm)]; exact h.calm.tmp
  · intro p hp
    rw [hlen]
    rcases hm p hp with rfl | hp
    · exact Nat.lt_succ_self _
    · have := h.ok.fol p hp; omega
  · intro p hp
    rw [hlen]
    rcases hm p hp with rfl | hp
    · exact Nat.lt_succ_self _
    · have := h.ok.fol p hp; omega
  · intro s hs; cases hs
  · exact kvApart_put _ _ h.ok.fap
  · exact kvApart_put _ _ h.ok.fap
  · have := h.ok.fln; omega
  · have : (D.pub name data).sure.length ≤ D.folder.length + 1 := kvPut_len _ _ _
    have := h.ok.fln; omega
  · intro f hf
    rcases List.mem_append.1 hf with hf | hf
    · exact h.ok.dat f hf
    · obtain rfl := List.mem_singleton.1 hf
      exact ⟨Nat.le_trans hz hZ, Nat.le_refl _⟩
  · intro p hp
    rcases hm p hp with rfl | hp
    · exact dkName_size hn
    · exact h.ok.nam p hp
  · intro p hp
    rcases hm p hp with rfl | hp
    · exact dkName_size hn
    · exact h.ok.nam p hp
theorem sync_live {E : Dk} (ar : E.arm = -1) (dd : E.dead = false) {n : ByteArray} {i : Nat} (hg : kvGet E.folder n = some i) : E.sync n = ({ E with files := E.files.set i { data := (E.flAt i).data, safe := (E.flAt i).data.size } }, 0) := by
  unfold Dk.sync
  rw [alive_selfP ar dd, if_neg (by simp [dd]), hg]
theorem rename_live {E : Dk} (ar : E.arm = -1) (dd : E.dead = false) {n m : ByteArray} {i : Nat} (hg : kvGet E.folder n = some i) (hm : dkName m = true) : E.rename n m = ({ E with folder := kvPut (kvDel E.folder n) m i, steps := E.steps ++ [⟨2, n, m, i⟩] }, 0) := by
  unfold Dk.rename
  rw [alive_selfP ar dd, if_neg (by simp [dd]), hg]
  simp only [hm, Bool.true_eq_false, if_false]
theorem settle_live {E : Dk} (ar : E.arm = -1) (dd : E.dead = false) : E.settle = ({ E with sure := E.folder, steps := [] }, 0) := by
  unfold Dk.settle
  rw [alive_selfP ar dd, if_neg (by simp [dd])]
/-- what Publish makes of a disk at rest -/
def Dk.pubR (D : Dk) (name data : ByteArray) : Dk := if D.has name = some data then D else D.pub name data
theorem tmp_ok : dkName tmpN = true := by decide +kernel
theorem publish_rest {D : Dk} {R : Int} {N F Z : Nat} (h : Rest D R N F Z) {name data : ByteArray} (hn : dkName name = true) (ht : name ≠ tmpN) (hroom : ((N * Z + data.size : Nat) : Int) ≤ R) : D.publish name data = (D.pubR name data, 0) := by
  have ha := alive_selfP h.calm.arm h.calm.dead
  have hst := h.steps
  have hset : D.settle = (D, 0) := by
    unfold Dk.settle
    rw [ha, if_neg (by simp [h.calm.dead])]
    have : ({ D with sure := D.folder, steps := [] } : Dk) = D := by
      have hs := h.sure
      obtain ⟨r, f, fo, su, st, a, d⟩ := D
      simp only at hs hst
      subst hs hst
      rfl
    rw [this]
  unfold Dk.publish
  rw [read_has h.calm.dead]
  unfold Dk.pubR
  by_cases hh : D.has name = some data
  · rw [hh, if_pos rfl]
    show (if (0 : Int) = 10 then (D, (10 : Int)) else if (0 : Int) = 0 ∧ data = data then _ else _) = _
    rw [if_neg (by decide), if_pos ⟨rfl, rfl⟩]
    have hsy : D.sync name = (D, 0) := by
      unfold Dk.sync
      rw [ha, if_neg (by simp [h.calm.dead])]
      unfold Dk.has at hh
      cases hg : kvGet D.folder name with
      | none => rw [hg] at hh; cases hh
      | some i =>
        have hs := h.calm.safe _ (kvGet_mem hg)
        have hi := h.ok.fol _ (kvGet_mem hg)
        simp only at hs hi ⊢
        have e : (⟨(D.flAt i).data, (D.flAt i).data.size⟩ : Fl) = D.files[i] := by
          rw [← hs]
          unfold Dk.flAt
          rw [List.getD, List.getElem?_eq_getElem hi]; rfl
        rw [e, List.set_getElem_self]
    rw [hsy, if_neg (by simp), hset]
  · rw [if_neg hh]
    have hr10 : (readO (D.has name)).2 ≠ 10 := by cases D.has name <;> simp [readO]
    have hrs : ¬ ((readO (D.has name)).2 = 0 ∧ (readO (D.has name)).1 = data) := by
      rintro ⟨h1, h2⟩
      cases hx : D.has name with
      | none => rw [hx] at h1; cases h1
      | some s => rw [hx] at h2; exact hh (by rw [hx, show s = data from h2])
    rw [if_neg hr10, if_neg hrs]
    have hrem : D.remove tmpN = (D, 7) := by
      unfold Dk.remove
      rw [ha, if_neg (by simp [h.calm.dead]), h.calm.tmp]
    unfold Dk.pub1
    rw [hrem, if_neg (by simp)]
    have happ : D.append tmpN data = (D.put tmpN data, 0) := by
      unfold Dk.append
      rw [ha, if_neg (by simp [h.calm.dead]), if_neg (by rw [tmp_ok]; simp), if_neg]
      have := h.calm.used
      rw [h.calm.room]
      omega
    unfold Dk.pub2
    rw [happ, if_neg (by simp)]
    have hput : D.put tmpN data = { D with files := D.files ++ [⟨data, 0⟩], folder := kvPut D.folder tmpN D.files.length, steps := D.steps ++ [⟨1, tmpN, tmpN, D.files.length⟩] } := by
      unfold Dk.put; rw [h.calm.tmp]
    have hsyn : (D.put tmpN data).sync tmpN = ({ D with files := D.files ++ [⟨data, data.size⟩], folder := kvPut D.folder tmpN D.files.length, steps := D.steps ++ [⟨1, tmpN, tmpN, D.files.length⟩] }, 0) := by
      rw [hput, sync_live (E := { D with files := D.files ++ [⟨data, 0⟩], folder := kvPut D.folder tmpN D.files.length, steps := D.steps ++ [⟨1, tmpN, tmpN, D.files.length⟩] }) h.calm.arm h.calm.dead (kvPut_get _ _ _ h.ok.fap)]
      simp [Dk.flAt, List.getD]
    unfold Dk.pub3
    rw [hsyn, if_neg (by simp)]
    unfold Dk.pub4
    rw [rename_live (E := { D with files := D.files ++ [⟨data, data.size⟩], folder := kvPut D.folder tmpN D.files.length, steps := D.steps ++ [⟨1, tmpN, tmpN, D.files.length⟩] }) h.calm.arm h.calm.dead (kvPut_get _ _ _ h.ok.fap) hn, if_neg (by simp), settle_live (E := { D with files := D.files ++ [⟨data, data.size⟩], folder := kvPut (kvDel (kvPut D.folder tmpN D.files.length) tmpN) name D.files.length, steps := D.steps ++ [⟨1, tmpN, tmpN, D.files.length⟩] ++ [⟨2, tmpN, name, D.files.length⟩] }) h.calm.arm h.calm.dead]
    simp only [kvDel_put _ _ _ h.calm.tmp]
    rfl
theorem pubR_has {D : Dk} (ok : DkOk D) (name data n : ByteArray) : (D.pubR name data).has n = if n = name then some data else D.has n := by
  unfold Dk.pubR
  split
  · next h => split
              · next e => rw [e, h]
              · rfl
  · exact pub_has ok name data n
theorem pubR_rest {D : Dk} {R : Int} {N F Z : Nat} (h : Rest D R N F Z) {name data : ByteArray} (hn : dkName name = true) (ht : name ≠ tmpN) (hz : data.size ≤ Z) (hZ : Z ≤ 1073741824) : Rest (D.pubR name data) R (N + 1) (F + 1) Z := by
  unfold Dk.pubR
  split
  · exact h.mono (by omega) (by omega)
  · exact pub_rest h hn ht hz hZ
end Go.Proofs.YtpeepdkeicgkiaaGreatDoor
namespace Go.Proofs.YtpeepdkeicgkiaaGreatDoor
set_option linter.unusedVariables false
set_option linter.unusedSimpArgs false
set_option linter.unusedSectionVars false
open Go.RowKit Go.Maps

/-- behind Remove -/
def Dk.gone (D : Dk) (name : ByteArray) : Dk := (D.remove name).1
theorem Calm.remove {D : Dk} {R : Int} {N F S Z : Nat} (h : Calm D R N F S Z) (name : ByteArray) : D.remove name = (D.gone name, if (D.has name).isSome then 0 else 7) ∧ Calm (D.gone name) R N F (S + 1) Z ∧ (∀ n, (D.gone name).has n = if n = name then none else D.has n) := by
  have ha := alive_selfP h.arm h.dead
  unfold Dk.gone
  cases hg : kvGet D.folder name with
  | none =>
    have hr : D.remove name = (D, 7) := by
      unfold Dk.remove
      rw [ha, if_neg (by simp [h.dead]), hg]
    have hh : D.has name = none := by unfold Dk.has; rw [hg]; rfl
    rw [hr, hh]
    refine ⟨rfl, ⟨h.dead, h.arm, h.room, h.safe, h.big, h.num, h.fl, Nat.le_succ_of_le h.st, h.tmp⟩, fun n => ?_⟩
    split
    · next e => rw [e, hh]
    · rfl
  | some i =>
    have hr : D.remove name = ({ D with folder := kvDel D.folder name, steps := D.steps ++ [⟨3, name, name, i⟩] }, 0) := by
      unfold Dk.remove
      rw [ha, if_neg (by simp [h.dead]), hg]
    have hh : D.has name = some (D.flAt i).data := by unfold Dk.has; rw [hg]; rfl
    rw [hr, hh]
    refine ⟨rfl, ⟨h.dead, h.arm, h.room, fun p hp => h.safe p (kvDel_mem hp), fun p hp => h.big p (kvDel_mem hp), Nat.le_trans (kvDel_len _ _) h.num, h.fl, ?_, ?_⟩, fun n => ?_⟩
    · simp only [List.length_append, List.length_singleton]
      have := h.st; omega
    · show kvGet (kvDel D.folder name) tmpN = none
      rw [kvGet_del]
      split
      · rfl
      · exact h.tmp
    · show (kvGet (kvDel D.folder name) n).map _ = _
      rw [kvGet_del]
      split
      · rfl
      · rfl
/-- behind Settle -/
def Dk.set (D : Dk) : Dk := { D with sure := D.folder, steps := [] }
theorem Calm.settle {D : Dk} {R : Int} {N F S Z : Nat} (h : Calm D R N F S Z) (ok : DkOk D) : D.settle = (D.set, 0) ∧ Rest D.set R N F Z ∧ (∀ n, D.set.has n = D.has n) := by
  have ha := alive_selfP h.arm h.dead
  refine ⟨?_, ⟨⟨h.dead, h.arm, h.room, h.safe, h.big, h.num, h.fl, Nat.le_refl _, h.tmp⟩, rfl, ⟨ok.fol, ok.fol, (fun s hs => by cases hs), ok.fap, ok.fap, ok.fln, ok.fln, ok.dat, ok.arm, ok.rm, ok.nam, ok.nam⟩⟩, fun n => rfl⟩
  unfold Dk.settle
  rw [ha, if_neg (by simp [h.dead])]
  rfl
theorem Rest.left {D : Dk} {R : Int} {N F Z : Nat} (h : Rest D R N F Z) (ks : List Int) : D.left ks = D.folder := by
  unfold Dk.left
  rw [h.steps]
  exact h.sure
theorem newFolder_lenP (D : Dk) (ks : List Int) (hn : (D.leftNames ks).Nodup) : ∀ k, k ≤ (D.leftNames ks).length → (D.newFolder ks k).length = k
  | 0, _ => rfl
  | k + 1, hk => by
    have ih := newFolder_lenP D ks hn k (by omega)
    have e : (D.leftNames ks).getD k ByteArray.empty = (D.leftNames ks)[k]'(by omega) := by rw [List.getD, List.getElem?_eq_getElem (by omega)]; rfl
    unfold Dk.newFolder
    rw [(kvPut_perm _ _ _).length_eq, List.length_cons, kvDel_noop, ih]
    intro p hp e2
    -- the names so far are the first k
    have : ∀ j, j ≤ k → ∀ p ∈ D.newFolder ks j, ∃ i, ∃ h : i < (D.leftNames ks).length, i < j ∧ p.1 = (D.leftNames ks)[i] := by
      intro j
      induction j with
      | zero => intro _ p hp; simp [Dk.newFolder] at hp
      | succ j ihj =>
        intro hj p hp
        unfold Dk.newFolder at hp
        rcases kvPut_mem hp with rfl | hp
        · exact ⟨j, by omega, by omega, by rw [List.getD, List.getElem?_eq_getElem (by omega)]; rfl⟩
        · obtain ⟨i, h, h1, h2⟩ := ihj (by omega) p hp
          exact ⟨i, h, by omega, h2⟩
    obtain ⟨i, h, h1, h2⟩ := this k (Nat.le_refl _) p hp
    rw [h2, e] at e2
    exact List.pairwise_iff_getElem.1 hn i k h (by omega) h1 e2
/-- a crash leaves a disk at rest as it is -/
theorem Rest.crash {D : Dk} {R : Int} {N F Z : Nat} (h : Rest D R N F Z) (hN : N ≤ F) (ks : List Int) : Rest (D.crash ks) R N F Z ∧ (∀ n, (D.crash ks).has n = D.has n) := by
  have okc := h.ok.crash ks
  have hl := h.left ks
  have hap : kvApart (D.left ks) := by rw [hl]; exact h.ok.fap
  have hnames : (D.leftNames ks).length = D.folder.length := by unfold Dk.leftNames; rw [hl, kvNames_len]
  have hget : ∀ n id, kvGet D.folder n = some id → ∃ i, kvGet (D.crash ks).folder n = some i ∧ (D.crash ks).flAt i = D.flAt id := by
    intro n id hg
    have hs := h.calm.safe _ (kvGet_mem hg)
    obtain ⟨i, hi, e, hf, _, hlf⟩ := crash_read D ks n id hap (by rw [hl]; exact hg)
    refine ⟨i, hf, ?_⟩
    rw [crash_flAt D ks i hi]
    unfold Dk.newFl
    rw [e, hlf, keepN_safe D ks i id hs, extract_all]
    show (⟨(D.flAt id).data, (D.flAt id).data.size⟩ : Fl) = _
    rw [← hs]
  have hnone : ∀ n, kvGet D.folder n = none → kvGet (D.crash ks).folder n = none := by
    intro n hg
    refine kvGet_none_of fun p hp e => ?_
    have hm := newFolder_names D ks _ (Nat.le_refl _) p hp
    unfold Dk.leftNames at hm
    rw [hl] at hm
    obtain ⟨v, hv⟩ := kvNames_mem hm
    exact kvGet_none_ne hg _ hv e
  have hback : ∀ p ∈ (D.crash ks).folder, ∃ q ∈ D.folder, (D.crash ks).flAt p.2 = D.flAt q.2 := by
    intro p hp
    have hm := newFolder_names D ks _ (Nat.le_refl _) p hp
    unfold Dk.leftNames at hm
    rw [hl] at hm
    obtain ⟨v, hv⟩ := kvNames_mem hm
    obtain ⟨i, h1, h2⟩ := hget p.1 v (kvGet_of_mem h.ok.fap hv)
    have h3 := kvGet_of_mem okc.fap hp
    rw [h1] at h3
    obtain rfl := Option.some.inj h3
    exact ⟨_, hv, h2⟩
  have hlen : (D.crash ks).folder.length = D.folder.length := by
    show (D.newFolder ks (D.leftNames ks).length).length = _
    rw [newFolder_lenP D ks (by unfold Dk.leftNames; exact kvNames_nodup hap) _ (Nat.le_refl _), hnames]
  refine ⟨⟨⟨rfl, rfl, h.calm.room, ?_, ?_, ?_, ?_, Nat.le_refl _, hnone _ h.calm.tmp⟩, rfl, okc⟩, fun n => ?_⟩
  · intro p hp
    obtain ⟨q, hq, e⟩ := hback p hp
    rw [e]; exact h.calm.safe q hq
  · intro p hp
    obtain ⟨q, hq, e⟩ := hback p hp
    rw [e]; exact h.calm.big q hq
  · rw [hlen]; exact h.calm.num
  · show (D.newFiles ks (D.leftNames ks).length).length ≤ F
    have e : (D.newFiles ks (D.leftNames ks).length).length = (D.leftNames ks).length := by simp [Dk.newFiles]
    rw [e, hnames]
    exact Nat.le_trans h.calm.num hN
  · unfold Dk.has
    cases hg : kvGet D.folder n with
    | none => rw [hnone n hg]; rfl
    | some id =>
      obtain ⟨i, h1, h2⟩ := hget n id hg
      rw [h1, Option.map_some, Option.map_some, h2]
end Go.Proofs.YtpeepdkeicgkiaaGreatDoor
