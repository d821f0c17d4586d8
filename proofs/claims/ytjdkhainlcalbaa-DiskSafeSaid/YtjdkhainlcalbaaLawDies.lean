/- The law DiskDies: its disk, and the walk. -/
import Derived.Test.YtjdkhainlcalbaaDi
namespace Go.Proofs.Ytjdkhainlcalbaa
open Go.RowKit Go.Maps

def chX : ByteArray := ⟨#[120]⟩
/-- a new disk with so many appended bytes -/
def dieB : Nat → Dk
  | 0 => dkNew 1000
  | i + 1 => ((dieB i).append nA chX).1
def Dk.at' (D : Dk) (arm : Int) (dead : Bool) : Dk := { D with arm := arm, dead := dead }
theorem dieB_ok : ∀ i, i < 61 → (i < 60 → ((dieB i).append nA chX).2 = 0) ∧ (dieB i).used = i ∧ (dieB i).files.length ≤ 1 ∧ (dieB i).steps.length ≤ 1 ∧ (((dieB i).crash [1]).append nB ⟨#[121]⟩).2 = 0 ∧ (dieB i).arm = -1 ∧ (dieB i).dead = false := by decide +kernel

theorem append_at (D : Dk) (a : Int) (name data : ByteArray) (ha : 0 < a) (h1 : D.arm = -1) (h2 : D.dead = false) :
    ((D.at' a false).append name data) = ((D.append name data).1.at' (a - 1) false, (D.append name data).2) := by
  have e1 : (D.at' a false).alive = D.at' (a - 1) false := by
    unfold Dk.alive Dk.at' armNext; simp only; rw [if_neg (by omega), if_pos ha]
  have e2 : D.alive = D := by
    cases D
    simp only at h1 h2
    subst h1 h2
    rfl
  unfold Dk.append
  rw [e1, e2, h2]
  have e3 : (D.at' (a - 1) false).dead = false := rfl
  have e4 : (D.at' a false).room = D.room := rfl
  have e5 : (D.at' a false).used = D.used := rfl
  rw [e3, e4, e5]
  simp only [Bool.false_eq_true, if_false]
  split
  · rfl
  · split
    · rfl
    · have : (D.at' (a - 1) false).put name data = (D.put name data).at' (a - 1) false := by
        unfold Dk.put
        rw [show (D.at' (a - 1) false).folder = D.folder from rfl]
        cases kvGet D.folder name <;> rfl
      rw [this]
theorem append_arm0 (D : Dk) (name data : ByteArray) : (D.at' 0 false).append name data = (D.at' (-1) true, 10) := rfl
theorem append_dead' (D : Dk) (name data : ByteArray) : (D.at' (-1) true).append name data = (D.at' (-1) true, 10) := rfl
theorem settle_dead' (D : Dk) : (D.at' (-1) true).settle = (D.at' (-1) true, 10) := rfl
theorem rename_dead' (D : Dk) (a b : ByteArray) : (D.at' (-1) true).rename a b = (D.at' (-1) true, 10) := rfl
theorem read_dead' (D : Dk) (a : ByteArray) : (D.at' (-1) true).read a = (⟨#[]⟩, 10) := rfl
theorem leftAt_at (D : Dk) (a : Int) (d : Bool) (ks : List Int) (k : Nat) : (D.at' a d).leftAt ks k = D.leftAt ks k := by
  induction k with
  | zero => rfl
  | succ k ih => unfold Dk.leftAt; rw [ih]; rfl
theorem left_at (D : Dk) (a : Int) (d : Bool) (ks : List Int) : (D.at' a d).left ks = D.left ks := leftAt_at D a d ks _
theorem newFolder_at (D : Dk) (a : Int) (d : Bool) (ks : List Int) (k : Nat) : (D.at' a d).newFolder ks k = D.newFolder ks k := by
  have hn : (D.at' a d).leftNames ks = D.leftNames ks := by unfold Dk.leftNames; rw [left_at]
  induction k with
  | zero => rfl
  | succ k ih => unfold Dk.newFolder; rw [ih, hn]
theorem crash_at (D : Dk) (a : Int) (d : Bool) (ks : List Int) : (D.at' a d).crash ks = D.crash ks := by
  have hn : (D.at' a d).leftNames ks = D.leftNames ks := by unfold Dk.leftNames; rw [left_at]
  have hf : ∀ k, (D.at' a d).newFiles ks k = D.newFiles ks k := by
    intro k
    unfold Dk.newFiles Dk.leftFile
    rw [hn, left_at]; rfl
  unfold Dk.crash
  rw [hn, hf, newFolder_at]; rfl

/-- the disk behind i calls, armed for n -/
def dieS (n i : Nat) : Dk := if i ≤ n then (dieB i).at' ((n : Int) - i) false else (dieB n).at' (-1) true
theorem dieS_zero (n : Nat) : (dkNew 1000).armed n = dieS n 0 := by
  unfold dieS Dk.armed Dk.at'
  rw [if_pos (Nat.zero_le _)]
  show { dkNew 1000 with arm := max (n : Int) (-1) } = { dkNew 1000 with arm := (n : Int) - (0 : Nat), dead := false }
  rw [show max (n : Int) (-1) = (n : Int) - (0 : Nat) by omega]; rfl
theorem dieS_step (n i : Nat) (hn : n ≤ 60) : (dieS n i).append nA chX = (dieS n (i + 1), if i < n then 0 else 10) := by
  by_cases h : i < n
  · obtain ⟨h1, _, _, _, _, h6, h7⟩ := dieB_ok i (by omega)
    unfold dieS
    rw [if_pos (by omega), if_pos (by omega), if_pos h, append_at _ _ _ _ (by omega) h6 h7, h1 (by omega)]
    show ((dieB (i + 1)).at' _ _, _) = _
    rw [show (n : Int) - i - 1 = n - (i + 1 : Nat) by omega]
  · by_cases h' : i = n
    · subst h'
      unfold dieS
      rw [if_pos (Nat.le_refl _), if_neg (by omega), if_neg h, show (i : Int) - i = 0 by omega]; rfl
    · unfold dieS
      rw [if_neg (by omega), if_neg (by omega), if_neg h]; rfl
theorem dieS_used (n i : Nat) (hn : n ≤ 60) : (dieS n i).used = min i n := by
  unfold dieS
  split
  · have := (dieB_ok i (by omega)).2.1
    show (dieB i).used = _
    omega
  · have := (dieB_ok n (by omega)).2.1
    show (dieB n).used = _
    omega
theorem dieS_small (n i : Nat) (hn : n ≤ 60) : (dieS n i).small 400000 := by
  unfold dieS
  split
  · obtain ⟨_, _, h1, h2, _⟩ := dieB_ok i (by omega)
    exact ⟨Nat.le_trans h1 (by decide), Nat.le_trans h2 (by decide)⟩
  · obtain ⟨_, _, h1, h2, _⟩ := dieB_ok n (by omega)
    exact ⟨Nat.le_trans h1 (by decide), Nat.le_trans h2 (by decide)⟩
theorem dieS_late (n i : Nat) (h : n < i) : dieS n i = (dieB n).at' (-1) true := by unfold dieS; rw [if_neg (by omega)]
theorem dieS_crash (n i : Nat) (hn : n ≤ 60) : (((dieS n i).crash [1]).append nB ⟨#[121]⟩).2 = 0 := by
  unfold dieS
  split
  · rw [crash_at]; exact (dieB_ok i (by omega)).2.2.2.2.1
  · rw [crash_at]; exact (dieB_ok n (by omega)).2.2.2.2.1
theorem small_crash {D : Dk} (ks : List Int) (h : D.sure.length + D.steps.length ≤ 400000) : (D.crash ks).small 400000 := by
  refine ⟨?_, Nat.zero_le _⟩
  rw [crash_files]
  unfold Dk.leftNames
  rw [kvNames_len]
  exact Nat.le_trans (D.leftAt_len ks D.steps.length) h
theorem dieB_sure : ∀ i, (dieB i).sure = [] := by
  intro i
  induction i with
  | zero => rfl
  | succ i ih =>
    unfold dieB Dk.append
    split
    · exact ih
    · split
      · exact ih
      · split
        · exact ih
        · unfold Dk.put; split <;> exact ih
theorem dieS_small2 (n i : Nat) (hn : n ≤ 60) : ((dieS n i).crash [1]).small 400000 := by
  refine small_crash _ ?_
  have h1 := (dieS_small n i hn).2
  have h2 : (dieS n i).sure = [] := by unfold dieS; split <;> exact dieB_sure _
  rw [h2]; simpa using h1
end Go.Proofs.Ytjdkhainlcalbaa
