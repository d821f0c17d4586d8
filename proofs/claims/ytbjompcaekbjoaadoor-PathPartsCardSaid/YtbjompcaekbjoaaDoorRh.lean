/- Folding: the program's. -/
import Derived.Test.YtbjompcaekbjoaaDoorRc
import Derived.WalkSmall
namespace Go.Proofs.YtbjompcaekbjoaaDoor
open Go.RowKit

/-- the small letter of a great one -/
def smallN (c : Int) : Int :=
  if (65 ≤ c ∧ c ≤ 90) ∨ (192 ≤ c ∧ c ≤ 222 ∧ c ≠ 215) ∨ (913 ≤ c ∧ c ≤ 937 ∧ c ≠ 930) ∨ (1040 ≤ c ∧ c ≤ 1071) then c + 32
  else if 1024 ≤ c ∧ c ≤ 1039 then c + 80 else c
theorem smallN_range (c : Int) (h0 : 0 ≤ c) (h1 : c ≤ 1114111) : 0 ≤ smallN c ∧ smallN c ≤ 1114111 := by
  unfold smallN
  split
  · omega
  · split <;> omega
set_option maxRecDepth 100000 in
set_option maxHeartbeats 3200000 in
theorem small_any (c : Int) (w : World) (h0 : 0 ≤ c) (h1 : c ≤ 1114111) :
    Calls Tryd.prog 72 #[.int .i32 c] w fun e w' => e = .returned (.int .i32 (smallN c)) ∧ w = w' := by
  have key : ∀ r, smallN c = r → (Calls Tryd.prog 72 #[.int .i32 c] w fun e w' => e = .returned (.int .i32 r) ∧ w = w') → Calls Tryd.prog 72 #[.int .i32 c] w fun e w' => e = .returned (.int .i32 (smallN c)) ∧ w = w' := fun r e h => by rw [e]; exact h
  rcases (by omega : c ≤ 64 ∨ (65 ≤ c ∧ c ≤ 90) ∨ (91 ≤ c ∧ c ≤ 191) ∨ (192 ≤ c ∧ c ≤ 214) ∨ c = 215 ∨ (216 ≤ c ∧ c ≤ 222) ∨ (223 ≤ c ∧ c ≤ 912) ∨ (913 ≤ c ∧ c ≤ 929) ∨ c = 930 ∨ (931 ≤ c ∧ c ≤ 937) ∨ (938 ≤ c ∧ c ≤ 1023) ∨ (1024 ≤ c ∧ c ≤ 1039) ∨ (1040 ≤ c ∧ c ≤ 1071) ∨ 1072 ≤ c) with g1 | ⟨g1, g2⟩ | ⟨g1, g2⟩ | ⟨g1, g2⟩ | rfl | ⟨g1, g2⟩ | ⟨g1, g2⟩ | ⟨g1, g2⟩ | rfl | ⟨g1, g2⟩ | ⟨g1, g2⟩ | ⟨g1, g2⟩ | ⟨g1, g2⟩ | g1
  · refine key c (by unfold smallN; rw [if_neg (by omega), if_neg (by omega)]) ?_
    clear key
    go_enter Tryd.func72, Tryd.ntmps72
    go_wp2
    go_ret
    exact ⟨rfl, rfl⟩
  · refine key (c + 32) (by unfold smallN; rw [if_pos (by omega)]) ?_
    clear key
    have q1 : (c != 215) = true := by simp; omega
    have q2 : (c != 930) = true := by simp; omega
    go_enter Tryd.func72, Tryd.ntmps72
    go_wp2
    go_ret
    exact ⟨rfl, rfl⟩
  · refine key c (by unfold smallN; rw [if_neg (by omega), if_neg (by omega)]) ?_
    clear key
    have q1 : (c != 215) = true := by simp; omega
    have q2 : (c != 930) = true := by simp; omega
    go_enter Tryd.func72, Tryd.ntmps72
    go_wp2
    go_ret
    exact ⟨rfl, rfl⟩
  · refine key (c + 32) (by unfold smallN; rw [if_pos (by omega)]) ?_
    clear key
    have q1 : (c != 215) = true := by simp; omega
    have q2 : (c != 930) = true := by simp; omega
    go_enter Tryd.func72, Tryd.ntmps72
    go_wp2
    go_ret
    exact ⟨rfl, rfl⟩
  · refine key 215 (by decide) ?_
    clear key h0 h1
    go_enter Tryd.func72, Tryd.ntmps72
    go_wp2
    go_ret
    exact ⟨rfl, rfl⟩
  · refine key (c + 32) (by unfold smallN; rw [if_pos (by omega)]) ?_
    clear key
    have q1 : (c != 215) = true := by simp; omega
    have q2 : (c != 930) = true := by simp; omega
    go_enter Tryd.func72, Tryd.ntmps72
    go_wp2
    go_ret
    exact ⟨rfl, rfl⟩
  · refine key c (by unfold smallN; rw [if_neg (by omega), if_neg (by omega)]) ?_
    clear key
    have q1 : (c != 215) = true := by simp; omega
    have q2 : (c != 930) = true := by simp; omega
    go_enter Tryd.func72, Tryd.ntmps72
    go_wp2
    go_ret
    exact ⟨rfl, rfl⟩
  · refine key (c + 32) (by unfold smallN; rw [if_pos (by omega)]) ?_
    clear key
    have q1 : (c != 215) = true := by simp; omega
    have q2 : (c != 930) = true := by simp; omega
    go_enter Tryd.func72, Tryd.ntmps72
    go_wp2
    go_ret
    exact ⟨rfl, rfl⟩
  · refine key 930 (by decide) ?_
    clear key h0 h1
    go_enter Tryd.func72, Tryd.ntmps72
    go_wp2
    go_ret
    exact ⟨rfl, rfl⟩
  · refine key (c + 32) (by unfold smallN; rw [if_pos (by omega)]) ?_
    clear key
    have q1 : (c != 215) = true := by simp; omega
    have q2 : (c != 930) = true := by simp; omega
    go_enter Tryd.func72, Tryd.ntmps72
    go_wp2
    go_ret
    exact ⟨rfl, rfl⟩
  · refine key c (by unfold smallN; rw [if_neg (by omega), if_neg (by omega)]) ?_
    clear key
    have q1 : (c != 215) = true := by simp; omega
    have q2 : (c != 930) = true := by simp; omega
    go_enter Tryd.func72, Tryd.ntmps72
    go_wp2
    go_ret
    exact ⟨rfl, rfl⟩
  · refine key (c + 80) (by unfold smallN; rw [if_neg (by omega), if_pos (by omega)]) ?_
    clear key
    have q1 : (c != 215) = true := by simp; omega
    have q2 : (c != 930) = true := by simp; omega
    go_enter Tryd.func72, Tryd.ntmps72
    go_wp2
    go_ret
    exact ⟨rfl, rfl⟩
  · refine key (c + 32) (by unfold smallN; rw [if_pos (by omega)]) ?_
    clear key
    have q1 : (c != 215) = true := by simp; omega
    have q2 : (c != 930) = true := by simp; omega
    go_enter Tryd.func72, Tryd.ntmps72
    go_wp2
    go_ret
    exact ⟨rfl, rfl⟩
  · refine key c (by unfold smallN; rw [if_neg (by omega), if_neg (by omega)]) ?_
    clear key
    go_enter Tryd.func72, Tryd.ntmps72
    go_wp2
    go_ret
    exact ⟨rfl, rfl⟩
end Go.Proofs.YtbjompcaekbjoaaDoor
