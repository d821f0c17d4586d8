/- Folding: the document's. -/
import Derived.Test.YtbjompcaekbjoaaDoorRn
namespace Go.Proofs.YtbjompcaekbjoaaDoor
open Go.RowKit

theorem lit_conv (l : List UInt8) (w : World) (hl : l.length ≤ maxLen) : (convert 58 9 (.slice (some ⟨w.heap.size, 0, none⟩) l.length l.length)).run Tryd.prog (w.alloc (.cells (bytesV l).toArray 5)) = .ok (.string (strB l)) (w.alloc (.cells (bytesV l).toArray 5)) := by
  have h := World.ownsRow_lit (base := w.heap.size) (e := 5) (size := 1) w (bytesV l).toArray l.length (Nat.le_refl _) hl (by simp [bytesV])
  exact run_convert_own 58 9 5 Tryd.underlying58 Tryd.underlying5 Tryd.underlying9 h
set_option maxRecDepth 100000 in
set_option maxHeartbeats 800000 in
/-- the document's Write, up to two bytes -/
theorem write_any (c : Nat) (w : World) (h : c < 2048) :
    Calls Tryd.prog 74 #[.int .i64 c] w fun e w' => e = .returned (.string (strB (Lib.encodeRune (c : Int)))) ∧ Below w.heap.size w w' := by
  by_cases h1 : c < 128
  · have h1i : (c : Int) < 128 := by omega
    have HE := Lib.hid (show Lib.encodeRune (c : Int) = [UInt8.ofNat c] by
      unfold Lib.encodeRune
      rw [Lib.encodeRuneZ_one (by omega) (by omega)]
      simp)
    have hcv := lit_conv [UInt8.ofNat c] w (show 1 ≤ maxLen by decide)
    have hbv : bytesV [UInt8.ofNat c] = [.int .u8 (c : Int)] := by
      simp only [bytesV, List.map_cons, List.map_nil]
      congr 2
      simp only [UInt8.toNat_ofNat']
      omega
    rw [hbv] at hcv
    simp only [List.length_cons, List.length_nil, Nat.zero_add] at hcv
    have HB := Lib.hid ((Below.refl w.heap.size w).alloc (Nat.le_refl _) (.cells #[Value.int .u8 (c : Int)] 5))
    clear hbv
    go_enter Tryd.func74, Tryd.ntmps74
    go_wp2
    go_ret
    exact ⟨ret_str (by rw [HE.out]), HB.out⟩
  · have h1i : ¬ (c : Int) < 128 := by omega
    have h2i : (c : Int) < 2048 := by omega
    have HE := Lib.hid (show Lib.encodeRune (c : Int) = [UInt8.ofNat (192 + c / 64), UInt8.ofNat (128 + c % 64)] by
      unfold Lib.encodeRune
      rw [Lib.encodeRuneZ_two (by omega) (by omega)]
      simp only [List.map_cons, List.map_nil]
      rw [show (192 + (c : Int) / 64).toNat = 192 + c / 64 by omega, show (128 + (c : Int) % 64).toNat = 128 + c % 64 by omega])
    have hcv := lit_conv [UInt8.ofNat (192 + c / 64), UInt8.ofNat (128 + c % 64)] w (show 2 ≤ maxLen by decide)
    have hbv : bytesV [UInt8.ofNat (192 + c / 64), UInt8.ofNat (128 + c % 64)] = [.int .u8 (192 + (c : Int) / 64), .int .u8 (128 + (c : Int) % 64)] := by
      have e1 : (UInt8.ofNat (192 + c / 64)).toNat = 192 + c / 64 := by simp only [UInt8.toNat_ofNat']; omega
      have e2 : (UInt8.ofNat (128 + c % 64)).toNat = 128 + c % 64 := by simp only [UInt8.toNat_ofNat']; omega
      simp only [bytesV, List.map_cons, List.map_nil]
      rw [e1, e2]
      rfl
    rw [hbv] at hcv
    simp only [List.length_cons, List.length_nil, Nat.zero_add, Nat.reduceAdd] at hcv
    have HB := Lib.hid ((Below.refl w.heap.size w).alloc (Nat.le_refl _) (.cells #[Value.int .u8 (192 + (c : Int) / 64), Value.int .u8 (128 + (c : Int) % 64)] 5))
    clear hbv
    generalize UInt8.ofNat (192 + c / 64) = b1 at *
    generalize UInt8.ofNat (128 + c % 64) = b2 at *
    go_enter Tryd.func74, Tryd.ntmps74
    go_wp2
    go_ret
    exact ⟨ret_str (by rw [HE.out]), HB.out⟩
end Go.Proofs.YtbjompcaekbjoaaDoor
