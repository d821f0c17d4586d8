/- The document's numbers as bytes. -/
import Derived.Test.YtacifkdheeligaaPa
namespace Go.Proofs.Ytacifkdheeligaa
open Go.RowKit

set_option maxHeartbeats 400000 in
set_option maxRecDepth 100000 in
theorem put2_any (x n : Nat) (w : World) (hx : x < 18446744073709551616) (hn : n ≤ 64) :
    Calls Try.prog 33 #[.int .u64 x, .int .i64 n] w fun e w' => e = .returned (.string ⟨(putL x n).toArray⟩) ∧ Below w.heap.size w w' := by
  have Hx := Lib.hid hx
  clear hx
  go_enter Try.func33, Try.ntmps33
  go_wp2
  go_loopw [0, 5, 6] (fun y v i wr => ∃ k : Nat, k ≤ n ∧ i = .int .i64 k ∧ y = .int .u64 ((x / 256 ^ k : Nat) : Int) ∧ wr.ownsRow w.heap.size 5 1 v k (bytesV (putL x k)) ∧ Below w.heap.size w wr) (fun _ _ i _ => n - (intOf i).toNat)
  case atStart => exact ⟨0, Nat.zero_le _, rfl, by simp, World.ownsRow_lit w #[] 0 (Nat.le_refl _) (by decide) rfl, (Below.refl _ _).alloc (Nat.le_refl _) _⟩
  case round =>
    obtain ⟨k, hk, rfl, rfl, hown, hb⟩ := hrel
    have hlt : x / 256 ^ k < 18446744073709551616 := Nat.lt_of_le_of_lt (Nat.div_le_self _ _) Hx.out
    generalize hy : x / 256 ^ k = y at hlt ⊢
    have Hy := Lib.hid hy
    have Hlt := Lib.hid hlt
    clear hy hlt
    have hcv := fun (v : Value) (h : wr.ownsRow w.heap.size 5 1 v k (bytesV (putL x k))) => run_convert_own 36 9 5 Try.underlying36 Try.underlying5 Try.underlying9 h
    have hcv := hcv _ hown
    have hsz := hb.size
    go_wp2_with (at_builtin; refine wpList_app1 rfl _ _ 36 rfl w.heap.size 5 Try.underlying36 infoByte rfl (by decide) _ _ _ rfl hown _ rfl rfl (oneCell_int _ _) ?_ ?_ ?_ ?_; omega; omega; omega; intro g1 cap1 w1 hown' hgr hbw _)
    · go_roundw
      case rel =>
        refine ⟨k + 1, by omega, by go_num, ?_, ?_, hb.trans hbw⟩
        · have := Hlt.out
          rw [Nat.pow_succ, ← Nat.div_div_eq_div_mul, Hy.out, IntWalk.u64_in _ (by omega)]; rfl
        · rw [putL_snoc, Hy.out, bytesV_app]; simpa [bytesV] using hown'
      case measure => simp [intOf]; omega
    · obtain rfl : k = n := by omega
      go_ret
      exact ⟨rfl, hb⟩

theorem getL_snoc (l : List UInt8) (c : UInt8) : getL (l ++ [c]) = getL l + 256 ^ l.length * c.toNat := by
  induction l with
  | nil => simp [getL]
  | cons d r ih => rw [List.cons_append, getL, ih, getL, List.length_cons, Nat.pow_succ, Nat.mul_add, Nat.mul_comm (256 ^ r.length) 256, Nat.mul_assoc, Nat.add_assoc]

set_option maxHeartbeats 400000 in
set_option maxRecDepth 100000 in
theorem get2_any (s : ByteArray) (w : World) (hs : s.size ≤ 4) :
    Calls Try.prog 31 #[.string s] w fun e w' => e = .returned (.int .u64 (getL s.data.toList)) ∧ w = w' := by
  go_enter Try.func31, Try.ntmps31
  go_wp2
  go_loop [3, 4, 5] (fun x u i => ∃ k : Nat, k ≤ s.size ∧ i = .int .i64 k ∧ x = .int .u64 (getL (s.data.toList.take k)) ∧ u = .int .u64 ((256 ^ k : Nat) : Int)) (fun _ _ i => s.size - (intOf i).toNat)
  case atStart => exact ⟨0, Nat.zero_le _, rfl, rfl, rfl⟩
  case round =>
    obtain ⟨k, hk, rfl, rfl, rfl⟩ := hrel
    have hlt := getL_lt (s.data.toList.take k)
    have hlen : (s.data.toList.take k).length = k := by simp; omega
    rw [hlen] at hlt
    have hp : 256 ^ k ≤ 4294967296 := Nat.le_trans (Nat.pow_le_pow_right (by decide) (show k ≤ 4 by omega)) (by decide)
    by_cases h0 : k < s.size
    · have hst : getL (s.data.toList.take (k + 1)) = getL (s.data.toList.take k) + 256 ^ k * s[k].toNat := by
        rw [ba_take s k h0, getL_snoc, hlen]
      have hc := s[k].toNat_lt
      have hst2 : getL (s.data.toList.take k) + s[k].toNat * 256 ^ k = getL (s.data.toList.take (k + 1)) := by rw [hst, Nat.mul_comm]
      have hpp : 256 ^ (k + 1) = 256 ^ k * 256 := Nat.pow_succ ..
      have hm : s[k].toNat * 256 ^ k ≤ 255 * 4294967296 := Nat.mul_le_mul (by omega) hp
      have hv : IntKind.u64.wrap ((getL (s.data.toList.take k) : Int) + IntKind.u64.wrap ((s[k].toNat : Int) * ((256 ^ k : Nat) : Int))) = ((getL (s.data.toList.take (k + 1)) : Nat) : Int) := by
        rw [← Int.natCast_mul, IntWalk.u64_in ((s[k].toNat * 256 ^ k : Nat) : Int) (by omega), ← Int.natCast_add, hst2, IntWalk.u64_in _ (by omega)]
      generalize getL (s.data.toList.take k) = x at *
      generalize 256 ^ k = u at *
      have HV := Lib.hid hv
      have HP := Lib.hid hpp
      clear hst hst2 hpp hv hm
      go_wp2
      go_round
      case rel => exact ⟨k + 1, by omega, by go_num, by rw [HV.out], by rw [HP.out]; go_num⟩
      case measure => simp [intOf]; omega
    · obtain rfl : k = s.size := by omega
      have Hl := Lib.hid hlt
      clear hlt
      rw [ba_take_all]
      go_wp2
      go_ret
      exact ⟨rfl, rfl⟩
end Go.Proofs.Ytacifkdheeligaa
