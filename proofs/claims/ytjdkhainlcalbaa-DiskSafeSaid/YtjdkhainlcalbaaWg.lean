/- The laws' start: a disk with a log and another file. -/
import Derived.Test.YtjdkhainlcalbaaWf
namespace Go.Proofs.Ytjdkhainlcalbaa
open Go.RowKit Go.Maps

def zeroB (n : Nat) : ByteArray := strL (List.replicate n 0)
theorem zeroB_size (n : Nat) : (zeroB n).size = n := by rw [zeroB, strL_size, List.length_replicate]
/-- make([]byte, n), made a string -/
theorem make_zeros (w : World) (n : Nat) (h : n ≤ 1099511627776) :
    ∃ w', (Instr.makeSlice 61 (.int .i64 (n : Int)) (.int .i64 (n : Int))).run Try.prog w = .ok (.slice (some ⟨w.heap.size, 0, none⟩) n n) w' ∧ Below w.heap.size w w' ∧
      (convert 61 9 (.slice (some ⟨w.heap.size, 0, none⟩) n n)).run Try.prog w' = .ok (.string (zeroB n)) w' := by
  obtain ⟨i0, hi, hz0, hz1, hz2⟩ := info_parts infoByte
  obtain ⟨w', hr, ho, hg⟩ := run_make_full (P := Try.prog) w w.heap.size 61 5 i0 (.int .u8 0) 1 Try.underlying61 hi hz0 hz1 .i64 .i64 n (by rw [hz2]; omega) (by unfold maxLen; omega) (Nat.le_refl _)
  refine ⟨w', hr, ⟨hg.os, hg.tape, hg.output, hg.size, fun i hi => hg.block i hi (by simp)⟩, ?_⟩
  refine run_convert_own 61 9 5 Try.underlying61 Try.underlying5 Try.underlying9 (base := w.heap.size) (n := n) (l := List.replicate n 0) ?_
  have : bytesV (List.replicate n 0) = (madeCells (Value.int .u8 0).cells (n * 1)).toList := by
    rw [show (Value.int IntKind.u8 0).cells = #[Value.int .u8 0] from rfl, toList_madeCells_one]
    simp [bytesV]
  rw [this]; exact ho

theorem start_a : ((dkNew 1048576).append otherName otherData).2 = 0 := by decide +kernel
theorem start_s : (((dkNew 1048576).append otherName otherData).1.sync otherName).2 = 0 := by decide +kernel
theorem start_r : (mkL ⟨#[]⟩).read logName = (⟨#[]⟩, 0) := by kernel_rfl
def startD1 : Dk := ((dkNew 1048576).append otherName otherData).1
def startD2 : Dk := (startD1.sync otherName).1

/-- the disk with its log, made anew -/
def StartPost (w w' : World) (e : Ending) : Prop := ∃ b L lb v, e = .returned (.tuple #[.pointer (some ⟨b, 0, none⟩), .pointer (some ⟨lb, 0, none⟩)]) ∧ Both w' b (mkL ⟨#[]⟩) L lb v [] false ∧ Below w.heap.size w w' ∧ ∀ k, bothFoot b L lb v k → w.heap.size ≤ k

set_option maxHeartbeats 1600000 in
set_option maxRecDepth 100000 in
theorem start_any (w : World) : Calls Try.prog 41 #[.int .i64 1048576] w fun e w' => StartPost w w' e := by
  have HN := Lib.hid (new_any 1048576 w (by decide))
  go_enter Try.func41, Try.ntmps41
  go_wp2_with fail
  refine HN.out.mono ?_
  rintro e w1 ⟨b, L, rfl, hd1, hb1, hf1⟩
  have HA := Lib.hid (append_any b _ L otherName otherData w1 hd1 (by decide) (by decide) (by decide) (by decide))
  rw [start_a] at HA
  clear hd1
  go_wp2_with fail
  refine HA.out.mono ?_
  rintro e w2 ⟨rfl, L2, hd2, ht2, hf2⟩
  have hbw2 : Below w.heap.size w w2 := below_of_touch hb1 ht2 hf1
  have hff2 : ∀ k ∈ foot b L2, w.heap.size ≤ k := fun k hk => (hf2 k hk).elim (hf1 k) (fun h => Nat.le_trans hb1.size h)
  have HS := Lib.hid (sync_any b _ L2 otherName w2 hd2 (by decide))
  rw [start_s] at HS
  clear hd2 ht2 hf2
  go_wp2_with fail
  refine HS.out.mono ?_
  rintro e w3 ⟨rfl, L3, hd3, ht3, hf3⟩
  have hbw3 : Below w.heap.size w w3 := below_of_touch hbw2 ht3 hff2
  have hff3 : ∀ k ∈ foot b L3, w.heap.size ≤ k := fun k hk => (hf3 k hk).elim (hff2 k) (fun h => Nat.le_trans hbw2.size h)
  have HFm := Lib.hid (format_any b _ L3 w3 hd3 ⟨by decide +kernel, by decide +kernel⟩)
  rw [mkL_start] at HFm
  clear hd3 ht3 hf3 hff2
  go_wp2_with fail
  refine HFm.out.mono ?_
  rintro e w4 ⟨rfl, L4, hd4, ht4, hf4⟩
  have hbw4 : Below w.heap.size w w4 := below_of_touch hbw3 ht4 hff3
  have hff4 : ∀ k ∈ foot b L4, w.heap.size ≤ k := fun k hk => (hf4 k hk).elim (hff3 k) (fun h => Nat.le_trans hbw3.size h)
  have HO := Lib.hid (open_any b (mkL ⟨#[]⟩) L4 w4 hd4 (by rw [start_r]))
  rw [start_r, parse_nil] at HO
  clear ht4 hf4 hff3
  go_wp2_with fail
  refine HO.out.mono ?_
  rintro e w5 ⟨lb, v, rfl, hl5, hb5, hf5⟩
  have hB5 : Both w5 b (mkL ⟨#[]⟩) L4 lb v [] false := ⟨hd4.below hb5, hl5, fun k hk hf => by have := hf5 k hk; have := hd4.flt k hf; omega⟩
  have HB5 := Lib.hid hB5
  have hff5 : ∀ k, bothFoot b L4 lb v k → w.heap.size ≤ k := fun k hk => hk.elim (hff4 k) (fun h => Nat.le_trans hbw4.size (hf5 k h))
  have HF5 := Lib.hid hff5
  clear hB5 hd4 hl5 hf5 hff4 hff5
  go_wp2
  go_ret2
  exact ⟨b, L4, lb, v, rfl, HB5.out, hbw4.trans (hb5.mono hbw4.size), HF5.out⟩
end Go.Proofs.Ytjdkhainlcalbaa
