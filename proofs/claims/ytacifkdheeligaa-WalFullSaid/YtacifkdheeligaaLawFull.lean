/- The law WalFull: the walk. -/
import Derived.Test.YtacifkdheeligaaWg
namespace Go.Proofs.Ytacifkdheeligaa
open Go.RowKit Go.Maps

theorem full_out (n size room : Int) (w : World) (h : n < 0 ∨ 210 < n ∨ size < 0 ∨ 5001 < size ∨ 20000 < n * size ∨ room < 0 ∨ 3000 < room) :
    Calls Try.prog 4 #[.int .i64 n, .int .i64 size, .int .i64 room] w fun e w' => e = .returned (.bool true) ∧ Below w.heap.size w w' := by
  have HA := Lib.hid (awake15_any w)
  by_cases h1 : n < 0
  · clear h
    go_enter Try.func4, Try.ntmps4
    go_wp2_with (go_at_call 10; refine HA.out.mono ?_; rintro e w' ⟨rfl, hb⟩)
    go_ret
    exact ⟨rfl, hb⟩
  by_cases h2 : 210 < n
  · clear h
    go_enter Try.func4, Try.ntmps4
    go_wp2_with (go_at_call 10; refine HA.out.mono ?_; rintro e w' ⟨rfl, hb⟩)
    go_ret
    exact ⟨rfl, hb⟩
  by_cases h3 : size < 0
  · clear h
    go_enter Try.func4, Try.ntmps4
    go_wp2_with (go_at_call 10; refine HA.out.mono ?_; rintro e w' ⟨rfl, hb⟩)
    go_ret
    exact ⟨rfl, hb⟩
  by_cases h4 : 5001 < size
  · clear h
    go_enter Try.func4, Try.ntmps4
    go_wp2_with (go_at_call 10; refine HA.out.mono ?_; rintro e w' ⟨rfl, hb⟩)
    go_ret
    exact ⟨rfl, hb⟩
  have h5a : 0 ≤ n * size := Int.mul_nonneg (by omega) (by omega)
  have h5b : n * size ≤ 1050210 := Int.le_trans (Int.mul_le_mul (by omega : n ≤ 210) (by omega : size ≤ 5001) (by omega) (by omega)) (by decide)
  by_cases h5 : 20000 < n * size
  · clear h
    go_enter Try.func4, Try.ntmps4
    go_wp2_with (go_at_call 10; refine HA.out.mono ?_; rintro e w' ⟨rfl, hb⟩)
    go_ret
    exact ⟨rfl, hb⟩
  by_cases h6 : room < 0
  · clear h
    go_enter Try.func4, Try.ntmps4
    go_wp2_with (go_at_call 10; refine HA.out.mono ?_; rintro e w' ⟨rfl, hb⟩)
    go_ret
    exact ⟨rfl, hb⟩
  have h7 : 3000 < room := by omega
  clear h
  go_enter Try.func4, Try.ntmps4
  go_wp2_with (go_at_call 10; refine HA.out.mono ?_; rintro e w' ⟨rfl, hb⟩)
  go_ret
  exact ⟨rfl, hb⟩

/-- how many records are taken of so many that are offered -/
def taken (size k : Nat) : Nat := if size ≤ 5000 then min k 200 else 0
def fullL (size k : Nat) : ByteArray := frames (List.replicate (taken size k) (zeroB size))
theorem fullL_size (size k : Nat) : (fullL size k).size = taken size k * (size + 8) := by unfold fullL; rw [frames_rep, zeroB_size]
theorem full_step {size k n : Nat} (hk : k < n) (hn : n ≤ 210) (hs : n * size ≤ 20000) (h1 : size ≤ 5000) (h2 : k < 200) :
    lgAdd (mkL (fullL size k)) (zeroB size) = (mkL (fullL size (k + 1)), 0) ∧ (List.replicate (taken size k) (zeroB size)) ++ [zeroB size] = List.replicate (taken size (k + 1)) (zeroB size) ∧ taken size k = k := by
  have ht : taken size k = k := by unfold taken; rw [if_pos h1]; omega
  have ht1 : taken size (k + 1) = k + 1 := by unfold taken; rw [if_pos h1]; omega
  have hz := fullL_size size k
  rw [ht] at hz
  have hk2 : k * size ≤ 20000 := Nat.le_trans (Nat.mul_le_mul_right _ (by omega)) hs
  have hz2 : k * (size + 8) = k * size + k * 8 := Nat.mul_add _ _ _
  refine ⟨?_, by rw [ht, ht1, List.replicate_succ'], ht⟩
  rw [mkL_add, if_neg (by rw [zeroB_size]; omega)]
  have : fullL size (k + 1) = fullL size k ++ frame (zeroB size) := by unfold fullL; rw [ht, ht1, frames_succ]
  rw [this]
theorem full_stop {size k : Nat} (h : 5000 < size ∨ 200 ≤ k) : taken size (k + 1) = taken size k ∧ (5000 < size ∨ 200 ≤ taken size k) := by
  unfold taken
  split <;> omega

/-- what the loop keeps -/
def FullInv (w : World) (b lb size k : Nat) (wr : World) : Prop := ∃ L v, Both wr b (mkL (fullL size k)) L lb v (List.replicate (taken size k) (zeroB size)) false ∧ Below w.heap.size w wr ∧ ∀ i, bothFoot b L lb v i → w.heap.size ≤ i

theorem mkS_read (room : Int) (l : ByteArray) : (mkS room l).read logName = (l, 0) := by
  unfold Dk.read
  rw [if_neg (show ¬ (mkS room l).dead = true from Bool.false_ne_true), show kvGet (mkS room l).folder logName = some 0 from (by decide +kernel : kvGet [(logName, 0)] logName = some 0)]
  rfl

end Go.Proofs.Ytacifkdheeligaa
