/- The laws' own Same, at like rows. -/
import Derived.Test.YtopmanmjggcfaaaIb
namespace Go.Proofs.Ytopmanmjggcfaaa
open Go.RowKit

set_option maxRecDepth 100000 in
set_option maxHeartbeats 800000 in
theorem lsame_any (A B : Option Addr) (c d : Nat) (l : List ByteArray) (w : World) (ha : StrsA w w.heap.size A l) (hb : StrsA w w.heap.size B l) (hl : l.length ≤ 1000000) :
    Calls Try.prog 26 #[.slice A l.length c, .slice B l.length d] w fun e w' => e = .returned (.int .i64 0) ∧ Below w.heap.size w w' := by
  have HA := Lib.hid ha
  have HB := Lib.hid hb
  clear ha hb
  have hq : ((l.length : Int) != (l.length : Int)) = false := by simp
  go_enter Try.func26, Try.ntmps26
  go_wp2
  go_loopw [13] (fun i wr => ∃ k : Nat, i = .int .i64 (k : Nat) ∧ k ≤ l.length ∧ ∃ n, wr = w.drewN n) (fun i _ => l.length - (intOf i).toNat)
  case atStart => exact ⟨0, rfl, Nat.zero_le _, 0, rfl⟩
  case round =>
    obtain ⟨k, rfl, hk, nd, rfl⟩ := hrel
    by_cases hkl : k < l.length
    · have hek := List.getElem?_eq_getElem hkl
      obtain ⟨g1, o1, rfl, _, h1⟩ := HA.out (by omega)
      obtain ⟨g2, o2, rfl, _, h2⟩ := HB.out (by omega)
      have q1 := h1 k _ hek
      have q2 := h2 k _ hek
      have hk0 : (0 : Int) ≤ (k : Int) := by omega
      have hk1 : (k : Int) < (l.length : Int) := by omega
      have hk3 : ((k : Int)).toNat = k := by omega
      clear h1 h2 hek
      generalize l[k] = x at *
      have hx : (x.toList == x.toList) = true := by simp
      go_wp2
      go_quiet (fail)
      go_wp2
      go_roundw
      case rel => exact ⟨k + 1, by go_num, by omega, _, rfl⟩
      case measure => simp [intOf]; omega
    · have hek : k = l.length := by omega
      go_wp2
      go_ret
      exact ⟨rfl, Go.below_drewN (Below.refl _ w) nd⟩
end Go.Proofs.Ytopmanmjggcfaaa
