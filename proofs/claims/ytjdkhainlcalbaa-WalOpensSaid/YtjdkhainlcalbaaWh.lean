/- A disk with a log, another file, and perhaps a log that is being made. -/
import Derived.Test.YtjdkhainlcalbaaLawRoom
import Derived.Test.YtjdkhainlcalbaaLawSwaps
import Derived.Test.YtjdkhainlcalbaaSl
namespace Go.Proofs.Ytjdkhainlcalbaa
open Go.RowKit Go.Maps

def fold (i o : Nat) : Option Nat → List (ByteArray × Nat)
  | none => [(logName, i), (otherName, o)]
  | some t => [(logName, i), (logTemp, t), (otherName, o)]
theorem fold_log (i o : Nat) (t : Option Nat) : kvGet (fold i o t) logName = some i := by cases t <;> rfl
theorem fold_temp (i o : Nat) (t : Option Nat) : kvGet (fold i o t) logTemp = t := by cases t <;> rfl
theorem fold_other (i o : Nat) (t : Option Nat) : kvGet (fold i o t) otherName = some o := by cases t <;> rfl
theorem fold_del (i o : Nat) (t : Option Nat) : kvDel (fold i o t) logTemp = fold i o none := by cases t <;> rfl
theorem fold_put (i o : Nat) (t : Option Nat) (j : Nat) : kvPut (fold i o t) logTemp j = fold i o (some j) := by cases t <;> rfl
theorem fold_putLog (i o : Nat) (t : Option Nat) (j : Nat) : kvPut (fold i o t) logName j = fold j o t := by cases t <;> rfl
theorem fold_sum (f : Nat → Nat) (i o : Nat) (t : Option Nat) : kvSum f (fold i o t) = f i + (t.elim 0 f + f o) := by cases t <;> simp [fold, kvSum]
theorem kvSort_same {l : List (List UInt8)} (h : l.Pairwise fun x y => decide (x ≤ y) = true) : kvSort l = l := List.mergeSort_of_pairwise h
theorem fold_names (i o : Nat) (t : Option Nat) : kvNames (fold i o t) = logName :: (t.elim [] (fun _ => [logTemp]) ++ [otherName]) := by
  cases t with
  | none =>
    show (kvSort [logName.data.toList, otherName.data.toList]).map kvNames.strM = _
    rw [kvSort_same (by decide +kernel)]; rfl
  | some t =>
    show (kvSort [logName.data.toList, logTemp.data.toList, otherName.data.toList]).map kvNames.strM = _
    rw [kvSort_same (by decide +kernel)]; rfl
theorem fold_apart (i o : Nat) (t : Option Nat) : kvApart (fold i o t) := by
  have h1 : logName ≠ otherName := by decide +kernel
  have h2 : logName ≠ logTemp := by decide +kernel
  have h3 : logTemp ≠ otherName := by decide +kernel
  cases t <;> simp [fold, kvApart, h1, h2, h3]

/-- a living disk of which all is safe, with a log -/
def stD (files : List Fl) (i o : Nat) (t : Option Nat) : Dk := ⟨1048576, files, fold i o t, fold i o t, [], -1, false⟩
/-- its log is l; a log that was being made has at most 100000 bytes -/
structure LogSt (D : Dk) (l : ByteArray) (files : List Fl) (i o : Nat) (t : Option Nat) : Prop where
  eq : D = stD files i o t
  io : i ≠ o
  ti : ∀ j, t = some j → j ≠ i ∧ j ≠ o ∧ j < files.length ∧ (D.flAt j).data.size ≤ 100000
  il : i < files.length
  ol : o < files.length
  log : D.flAt i = ⟨l, l.size⟩
  oth : D.flAt o = ⟨otherData, 9⟩

theorem LogSt.used {D : Dk} {l : ByteArray} {files : List Fl} {i o : Nat} {t : Option Nat} (h : LogSt D l files i o t) : D.used ≤ l.size + 100009 := by
  have e : D.used = (D.flAt i).data.size + (t.elim 0 (fun j => (D.flAt j).data.size) + (D.flAt o).data.size) := by
    rw [h.eq]; exact fold_sum _ i o t
  rw [e, h.log, h.oth]
  have h9 : otherData.size = 9 := rfl
  cases t with
  | none => simp [h9] <;> omega
  | some j => have := (h.ti j rfl).2.2.2; simp [h9] <;> omega
theorem LogSt.read {D : Dk} {l : ByteArray} {files : List Fl} {i o : Nat} {t : Option Nat} (h : LogSt D l files i o t) : D.read logName = (l, 0) ∧ D.read otherName = (otherData, 0) := by
  have hl := h.log
  have ho := h.oth
  rw [h.eq] at hl ho
  rw [h.eq]
  constructor
  · unfold Dk.read
    rw [if_neg (by simp [stD]), show (stD files i o t).folder = fold i o t from rfl, fold_log]
    show (((stD files i o t).flAt i).data, (0 : Int)) = _
    rw [hl]
  · unfold Dk.read
    rw [if_neg (by simp [stD]), show (stD files i o t).folder = fold i o t from rfl, fold_other]
    show (((stD files i o t).flAt o).data, (0 : Int)) = _
    rw [ho]
theorem flAt_set_same {D : Dk} {i : Nat} (f : Fl) (h : i < D.files.length) : ({ D with files := D.files.set i f } : Dk).flAt i = f := by
  simp [Dk.flAt, List.getD, List.getElem?_set_self h]
theorem flAt_set_other {D : Dk} {i j : Nat} (f : Fl) (h : i ≠ j) : ({ D with files := D.files.set i f } : Dk).flAt j = D.flAt j := by
  simp [Dk.flAt, List.getD, List.getElem?_set_ne h]
/-- a record more -/
theorem LogSt.add {D : Dk} {l : ByteArray} {files : List Fl} {i o : Nat} {t : Option Nat} (h : LogSt D l files i o t) (s : ByteArray) (hs : l.size + s.size ≤ 900000) :
    ∃ D' f, lgAdd D s = (D', 0) ∧ LogSt D' (l ++ frame s) f i o t ∧ D'.files.length = D.files.length := by
  have hu := h.used
  have e := lgAdd_live (D := D) (by rw [h.eq]; rfl) (by rw [h.eq]; rfl) (i := i) (by rw [h.eq]; exact fold_log i o t) (by rw [h.eq]; exact h.il) s
  rw [if_neg (by rw [show D.room = 1048576 by rw [h.eq]; rfl]; omega), h.log] at e
  have hi : i < D.files.length := by rw [h.eq]; exact h.il
  refine ⟨_, files.set i ⟨l ++ frame s, (l ++ frame s).size⟩, e, ⟨?_, h.io, ?_, by simpa using h.il, by simpa using h.ol, ?_, ?_⟩, by simp⟩
  · rw [h.eq]; rfl
  · intro j hj
    obtain ⟨h1, h2, h3, h4⟩ := h.ti j hj
    refine ⟨h1, h2, by simpa using h3, ?_⟩
    rw [flAt_set_other _ (Ne.symm h1)]; exact h4
  · exact flAt_set_same _ hi
  · rw [flAt_set_other _ h.io]; exact h.oth
theorem flAt_app_old {D : Dk} {f : Fl} {i : Nat} (h : i < D.files.length) : ({ D with files := D.files ++ [f] } : Dk).flAt i = D.flAt i := by
  simp [Dk.flAt, List.getD, List.getElem?_append_left h]

/-- what a replacement does, step by step -/
def rp1 (files : List Fl) (i o : Nat) (t : Option Nat) : Dk := ⟨1048576, files, fold i o none, fold i o t, t.elim [] (fun j => [⟨3, logTemp, logTemp, j⟩]), -1, false⟩
def rp2 (files : List Fl) (i o : Nat) (t : Option Nat) (d : ByteArray) : Dk := ⟨1048576, files ++ [⟨d, 0⟩], fold i o (some files.length), fold i o t, t.elim [] (fun j => [⟨3, logTemp, logTemp, j⟩]) ++ [⟨1, logTemp, logTemp, files.length⟩], -1, false⟩
def rp3 (files : List Fl) (i o : Nat) (t : Option Nat) (d : ByteArray) : Dk := ⟨1048576, files ++ [⟨d, d.size⟩], fold i o (some files.length), fold i o t, t.elim [] (fun j => [⟨3, logTemp, logTemp, j⟩]) ++ [⟨1, logTemp, logTemp, files.length⟩], -1, false⟩
def rp4 (files : List Fl) (i o : Nat) (t : Option Nat) (d : ByteArray) : Dk := ⟨1048576, files ++ [⟨d, d.size⟩], fold files.length o none, fold i o t, t.elim [] (fun j => [⟨3, logTemp, logTemp, j⟩]) ++ [⟨1, logTemp, logTemp, files.length⟩] ++ [⟨2, logTemp, logName, files.length⟩], -1, false⟩
theorem rp_1 (files : List Fl) (i o : Nat) (t : Option Nat) : (stD files i o t).remove logTemp = (rp1 files i o t, if t = none then 7 else 0) := by
  have hd : (stD files i o t).alive = stD files i o t := rfl
  unfold Dk.remove
  rw [hd, if_neg (by simp [stD]), show kvGet (stD files i o t).folder logTemp = t from fold_temp i o t]
  cases t with
  | none => rfl
  | some j =>
    show (({ stD files i o (some j) with folder := kvDel (fold i o (some j)) logTemp, steps := [] ++ [⟨3, logTemp, logTemp, j⟩] } : Dk), (0 : Int)) = _
    rw [fold_del]; rfl
theorem rp_2 (files : List Fl) (i o : Nat) (t : Option Nat) (d : ByteArray) (h : ((stD files i o t).flAt i).data.size + ((stD files i o t).flAt o).data.size + d.size ≤ 1048576) : (rp1 files i o t).append logTemp d = (rp2 files i o t d, 0) := by
  have hd : (rp1 files i o t).alive = rp1 files i o t := rfl
  have hu : (rp1 files i o t).used = ((stD files i o t).flAt i).data.size + ((stD files i o t).flAt o).data.size := by
    show kvSum _ (fold i o none) = _
    rw [fold_sum]; simp; rfl
  unfold Dk.append
  rw [hd, if_neg (by simp [rp1]), if_neg (by decide +kernel), hu, if_neg (by rw [show (rp1 files i o t).room = 1048576 from rfl]; omega)]
  unfold Dk.put
  rw [show kvGet (rp1 files i o t).folder logTemp = none from fold_temp i o none]
  show (({ rp1 files i o t with files := files ++ [⟨d, 0⟩], folder := kvPut (fold i o none) logTemp files.length, steps := _ } : Dk), (0 : Int)) = _
  rw [fold_put]; rfl
theorem rp_3 (files : List Fl) (i o : Nat) (t : Option Nat) (d : ByteArray) : (rp2 files i o t d).sync logTemp = (rp3 files i o t d, 0) := by
  have hd : (rp2 files i o t d).alive = rp2 files i o t d := rfl
  unfold Dk.sync
  rw [hd, if_neg (by simp [rp2]), show kvGet (rp2 files i o t d).folder logTemp = some files.length from fold_temp i o (some files.length)]
  have hf : (rp2 files i o t d).flAt files.length = ⟨d, 0⟩ := by simp [Dk.flAt, rp2, List.getD]
  show (({ rp2 files i o t d with files := (files ++ [(⟨d, 0⟩ : Fl)]).set files.length ⟨((rp2 files i o t d).flAt files.length).data, ((rp2 files i o t d).flAt files.length).data.size⟩ } : Dk), (0 : Int)) = _
  rw [hf, List.set_append_right _ _ (Nat.le_refl _)]
  simp [rp2, rp3]
theorem rp_4 (files : List Fl) (i o : Nat) (t : Option Nat) (d : ByteArray) : (rp3 files i o t d).rename logTemp logName = (rp4 files i o t d, 0) := by
  have hd : (rp3 files i o t d).alive = rp3 files i o t d := rfl
  unfold Dk.rename
  rw [hd, if_neg (by simp [rp3]), show kvGet (rp3 files i o t d).folder logTemp = some files.length from fold_temp i o (some files.length)]
  have hn : dkName logName = true := by decide +kernel
  show (if dkName logName = false then _ else _) = _
  rw [hn, if_neg (by simp)]
  show (({ rp3 files i o t d with folder := kvPut (kvDel (fold i o (some files.length)) logTemp) logName files.length, steps := _ } : Dk), (0 : Int)) = _
  rw [fold_del, fold_putLog]; rfl
theorem rp_5 (files : List Fl) (i o : Nat) (t : Option Nat) (d : ByteArray) : (rp4 files i o t d).settle = (stD (files ++ [⟨d, d.size⟩]) files.length o none, 0) := rfl
/-- the log replaced -/
theorem LogSt.replace {D : Dk} {l : ByteArray} {files : List Fl} {i o : Nat} {t : Option Nat} (h : LogSt D l files i o t) (recs : List ByteArray) (hs : l.size + (frames recs).size ≤ 900000) :
    lgReplace D recs = (stD (files ++ [⟨frames recs, (frames recs).size⟩]) files.length o none, 0) ∧
      LogSt (stD (files ++ [⟨frames recs, (frames recs).size⟩]) files.length o none) (frames recs) (files ++ [⟨frames recs, (frames recs).size⟩]) files.length o none := by
  have hl := h.log
  have ho := h.oth
  rw [h.eq] at hl ho
  have h9 : otherData.size = 9 := rfl
  constructor
  · unfold lgReplace
    rw [h.eq, rp_1]
    rw [if_pos (by cases t <;> simp)]
    dsimp only
    rw [rp_2 _ _ _ _ _ (by rw [hl, ho]; simp only [h9]; omega), thenOk_ok rfl]
    dsimp only
    rw [rp_3, thenOk_ok rfl]
    dsimp only
    rw [rp_4, thenOk_ok rfl]
    exact rp_5 _ _ _ _ _
  · refine ⟨rfl, by have := h.ol; omega, fun j hj => by simp at hj, by simp, by have := h.ol; simp; omega, ?_, ?_⟩
    · simp [Dk.flAt, stD, List.getD]
    · have := h.ol
      rw [← ho]
      simp [Dk.flAt, stD, List.getD, List.getElem?_append_left this]
end Go.Proofs.Ytjdkhainlcalbaa
