/- The cyclic sum. -/
import Derived.Test.YtjdkhainlcalbaaBi
namespace Go.Proofs.Ytjdkhainlcalbaa
open Go.RowKit

def crcUp (c : Nat) (b : UInt8) : Nat := crcEntry (c % 256 ^^^ b.toNat) ^^^ c / 256
def crcL (c : Nat) (l : List UInt8) : Nat := 4294967295 - l.foldl crcUp (4294967295 - c)
theorem crc_not (c : Nat) (h : c < 4294967296) : bits BinOp.xor IntKind.u32 IntKind.u32.max (c : Int) = ((4294967295 - c : Nat) : Int) := by
  have e : IntKind.u32.max = ((4294967295 : Nat) : Int) := by decide
  rw [e, u32_xor_nat _ _ (by omega) h]
  congr 1
  apply Nat.eq_of_testBit_eq
  intro i
  have h' : c < 2 ^ 32 := h
  rw [show (4294967295 - c : Nat) = 2 ^ 32 - (c + 1) by omega, Nat.testBit_two_pow_sub_succ h', Nat.testBit_xor, show (4294967295 : Nat) = 2 ^ 32 - 1 by decide, Nat.testBit_two_pow_sub_one]
  by_cases hi : i < 32
  · simp [hi]
  · have : c.testBit i = false := Nat.testBit_lt_two_pow (Nat.lt_of_lt_of_le h' (Nat.pow_le_pow_right (n := 2) (by decide) (by omega)))
    simp [hi, this]
theorem xor_lt8 {a b : Nat} (ha : a < 256) (hb : b < 256) : a ^^^ b < 256 := Nat.xor_lt_two_pow (n := 8) ha hb
theorem crcUp_lt {c : Nat} (h : c < 4294967296) (b : UInt8) : crcUp c b < 4294967296 := by
  unfold crcUp
  have h1 : c % 256 ^^^ b.toNat < 256 := xor_lt8 (by omega) b.toNat_lt
  exact Nat.xor_lt_two_pow (n := 32) (crcEntry_lt (by omega)) (by omega)
theorem crcFold_lt (l : List UInt8) : ∀ {c : Nat}, c < 4294967296 → l.foldl crcUp c < 4294967296 := by
  induction l with
  | nil => exact fun h => h
  | cons b r ih => exact fun h => ih (crcUp_lt h b)
theorem crcL_lt (c : Nat) (l : List UInt8) : crcL c l < 4294967296 := by unfold crcL; omega

set_option maxHeartbeats 400000 in
set_option maxRecDepth 100000 in
theorem crc_any (c : Nat) (s : ByteArray) (w : World) (hs : s.size ≤ 9223372036854775807) (hc : c < 4294967296) :
    Calls Try.prog 91 #[.int .u32 c, .string s] w fun e w' => e = .returned (.int .u32 (crcL c s.data.toList)) ∧ Below w.heap.size w w' := by
  have htab := table_any w
  have HT := Lib.hid htab
  clear htab
  go_enter Try.func91, Try.ntmps91
  go_wp2_with fail
  refine HT.out.mono ?_
  rintro e w1 ⟨rfl, hb1⟩
  have hnew : BlockIs (w1.alloc (.cells Try.zeroCells157 157)) w1.heap.size Try.zeroCells157 157 := BlockIs.new _ _ _
  go_wp2_with (first
    | (refine wpList_store_row rfl 157 _ _ rfl w1.heap.size _ rfl rfl 157 _ hnew (by rw [tabV_size]; exact infoTab) (by rw [zeroTab, tabV_size, tabV_size]) (by simp [tabV, Value.oneCell']) ?_))
  have hblk : BlockIs ((w1.alloc (.cells Try.zeroCells157 157)).setRow w1.heap.size (tabV crcEntry)) w1.heap.size (tabV crcEntry) 157 := setRow_heap _ _ _ _ _ _ hnew
  have hbw : Below w.heap.size w ((w1.alloc (.cells Try.zeroCells157 157)).setRow w1.heap.size (tabV crcEntry)) :=
    (hb1.alloc hb1.size _).trans ⟨rfl, rfl, rfl, by simp, fun i hi => setRow_other _ _ _ _ (by have := hb1.size; omega)⟩
  generalize ((w1.alloc (.cells Try.zeroCells157 157)).setRow w1.heap.size (tabV crcEntry)) = w2 at hblk hbw
  generalize w1.heap.size = g at hblk
  clear hnew hb1
  rw [crc_not c hc]
  have HB := Lib.hid hblk
  have HW := Lib.hid hbw
  clear hblk hbw
  go_loop [0, 12] (fun x i => ∃ k : Nat, k ≤ s.size ∧ i = .int .i64 k ∧ x = .int .u32 (((s.data.toList.take k).foldl crcUp (4294967295 - c) : Nat) : Int)) (fun _ i => s.size - (intOf i).toNat)
  case atStart => exact ⟨0, Nat.zero_le _, rfl, rfl⟩
  case round =>
    obtain ⟨k, hk, rfl, rfl⟩ := hrel
    have hlt := crcFold_lt (s.data.toList.take k) (c := 4294967295 - c) (by omega)
    generalize hx : (s.data.toList.take k).foldl crcUp (4294967295 - c) = x at hlt ⊢
    have Hx := Lib.hid hx
    clear hx
    by_cases h0 : k < s.size
    · have hstep : (s.data.toList.take (k + 1)).foldl crcUp (4294967295 - c) = crcUp x s[k] := by
        rw [ba_take s k h0, List.foldl_append, Hx.out]; rfl
      have hb := s[k].toNat_lt
      have hj : (x % 256 ^^^ s[k].toNat) < 256 := xor_lt8 (by omega) hb
      have e1 : bits BinOp.xor IntKind.u8 ((x : Int) % 256) (s[k].toNat : Int) = ((x % 256 ^^^ s[k].toNat : Nat) : Int) := by
        rw [show ((x : Int) % 256) = ((x % 256 : Nat) : Int) by omega, u8_xor_nat _ _ (by omega) hb]
      have c1 : w2.cell? ⟨g, x % 256 ^^^ s[k].toNat, none⟩ = some (.int .u32 (crcEntry (x % 256 ^^^ s[k].toNat))) := by rw [HB.out.cell, tabV_get _ hj]
      have e2 : bits BinOp.xor IntKind.u32 (crcEntry (x % 256 ^^^ s[k].toNat) : Int) ((x : Int) / 256) = ((crcUp x s[k] : Nat) : Int) := by
        rw [show ((x : Int) / 256) = ((x / 256 : Nat) : Int) by omega, u32_xor_nat _ _ (crcEntry_lt (by omega)) (by omega)]; rfl
      have HS := Lib.hid hstep
      have HL := Lib.hid hlt
      clear hstep hlt
      generalize (x % 256 ^^^ s[k].toNat) = j at *
      generalize crcUp x s[k] = y at *
      go_wp2
      go_round
      case rel => exact ⟨k + 1, by omega, by go_num, by rw [HS.out]⟩
      case measure => simp [intOf]; omega
    · obtain rfl : k = s.size := by omega
      have HL := Lib.hid hlt
      clear hlt
      go_wp2
      go_ret
      exact ⟨by rw [crc_not x HL.out, ← Hx.out, ba_take_all]; rfl, HW.out⟩
end Go.Proofs.Ytjdkhainlcalbaa
