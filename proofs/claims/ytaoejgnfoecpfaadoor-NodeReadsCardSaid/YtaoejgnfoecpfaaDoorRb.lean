/- Runes of a text: the model's decoding at a place; path's broken. -/
import Derived.Test.YtaoejgnfoecpfaaDoorRa
import Derived.Test.YtaoejgnfoecpfaaDoorSh
namespace Go.Proofs.YtaoejgnfoecpfaaDoor
open Go.RowKit

theorem cont_eq' (s : ByteArray) (i k : Nat) : (decide (i + k < s.size) && (bAt s (i + k) / 64 == 2)) = true ↔ contB s (i + k) := by
  unfold contB
  have := bAt_lt s (i + k)
  simp only [Bool.and_eq_true, decide_eq_true_eq, beq_iff_eq]
  omega
/-- the model's decoding, by a text's bytes from a place on -/
def decF (b : Nat → Nat) (c : Nat → Bool) : Nat × Nat :=
  if b 0 < 128 then (b 0, 1)
  else if (b 0 / 32 == 6 && c 1) = true then (if 128 ≤ (b 0 % 32) * 64 + b 1 % 64 then ((b 0 % 32) * 64 + b 1 % 64, 2) else (65533, 1))
  else if (b 0 / 16 == 14 && c 1 && c 2) = true then (if (decide (2048 ≤ (b 0 % 16) * 4096 + (b 1 % 64) * 64 + b 2 % 64) && Utf8.valid ((b 0 % 16) * 4096 + (b 1 % 64) * 64 + b 2 % 64 : Nat)) = true then ((b 0 % 16) * 4096 + (b 1 % 64) * 64 + b 2 % 64, 3) else (65533, 1))
  else if (b 0 / 8 == 30 && c 1 && c 2 && c 3) = true then (if (decide (65536 ≤ (b 0 % 8) * 262144 + (b 1 % 64) * 4096 + (b 2 % 64) * 64 + b 3 % 64) && Utf8.valid ((b 0 % 8) * 262144 + (b 1 % 64) * 4096 + (b 2 % 64) * 64 + b 3 % 64 : Nat)) = true then ((b 0 % 8) * 262144 + (b 1 % 64) * 4096 + (b 2 % 64) * 64 + b 3 % 64, 4) else (65533, 1))
  else (65533, 1)
def contD (s : ByteArray) (i k : Nat) : Bool := decide (i + k < s.size) && (bAt s (i + k) / 64 == 2)
theorem decode_F (s : ByteArray) (i : Nat) : Utf8.decode s i = decF (fun k => bAt s (i + k)) (contD s i) := rfl
theorem decF_congr {b b' : Nat → Nat} {c c' : Nat → Bool} (h0 : b 0 = b' 0) (hc : ∀ k, c k = c' k) (hb : ∀ k, c' k = true → b k = b' k) : decF b c = decF b' c' := by
  unfold decF
  rw [h0, hc 1, hc 2, hc 3]
  cases h1 : c' 1 with
  | false => simp
  | true =>
    rw [hb 1 h1]
    cases h2 : c' 2 with
    | false => simp
    | true =>
      rw [hb 2 h2]
      cases h3 : c' 3 with
      | false => simp
      | true => rw [hb 3 h3]
theorem bAt_ext (s : ByteArray) (i k : Nat) (h : i + k < s.size) : bAt (s.extract i s.size) k = bAt s (i + k) := by
  have hz : k < (s.extract i s.size).size := by rw [ByteArray.size_extract]; omega
  rw [← bAt_get _ _ hz, ← bAt_get _ _ h]
  congr 1
  show (s.extract i s.size).data[k]'_ = s.data[i + k]'_
  simp [ByteArray.data_extract]
/-- the rest of a text is decoded as the text is from there on -/
theorem decode_ext (s : ByteArray) (i : Nat) (h : i < s.size) : Utf8.decode (s.extract i s.size) 0 = Utf8.decode s i := by
  rw [decode_F, decode_F]
  have hz : (s.extract i s.size).size = s.size - i := by rw [ByteArray.size_extract]; omega
  have hb : ∀ k, i + k < s.size → bAt (s.extract i s.size) (0 + k) = bAt s (i + k) := fun k hk => by rw [Nat.zero_add]; exact bAt_ext s i k hk
  refine decF_congr (hb 0 (by omega)) (fun k => ?_) (fun k hk => hb k ?_)
  · unfold contD
    by_cases hk : i + k < s.size
    · rw [hb k hk, hz, decide_eq_true (show 0 + k < s.size - i by omega), decide_eq_true hk]
    · rw [hz, decide_eq_false (show ¬ 0 + k < s.size - i by omega), decide_eq_false hk]; rfl
  · unfold contD at hk
    simp only [Bool.and_eq_true, decide_eq_true_eq] at hk
    exact hk.1
theorem decode_fits (s : ByteArray) (i : Nat) (h : i < s.size) : 1 ≤ (Utf8.decode s i).2 ∧ (Utf8.decode s i).2 ≤ 4 ∧ i + (Utf8.decode s i).2 ≤ s.size ∧ (Utf8.decode s i).1 ≤ 1114111 := by
  rw [decode_F]
  have hc : ∀ k, contD s i k = true → i + k < s.size := fun k hk => by
    unfold contD at hk
    simp only [Bool.and_eq_true, decide_eq_true_eq] at hk
    exact hk.1
  unfold decF
  split
  · next h0 => exact ⟨by simp, by simp, by simp; omega, Nat.le_trans (Nat.le_of_lt h0) (by decide)⟩
  · split
    · next h1 =>
      simp only [Bool.and_eq_true] at h1
      have := hc 1 h1.2
      split
      · exact ⟨by simp, by simp, by simp; omega, by simp; omega⟩
      · exact ⟨by simp, by simp, by simp; omega, by simp⟩
    · split
      · next h1 =>
        simp only [Bool.and_eq_true] at h1
        have := hc 2 h1.2
        split
        · next h2 =>
          simp only [Bool.and_eq_true, valid_iff] at h2
          exact ⟨by simp, by simp, by simp; omega, by simp only; omega⟩
        · exact ⟨by simp, by simp, by simp; omega, by simp⟩
      · split
        · next h1 =>
          simp only [Bool.and_eq_true] at h1
          have := hc 3 h1.2
          split
          · next h2 =>
            simp only [Bool.and_eq_true, valid_iff] at h2
            exact ⟨by simp, by simp, by simp; omega, by simp only; omega⟩
          · exact ⟨by simp, by simp, by simp; omega, by simp⟩
        · exact ⟨by simp, by simp, by simp; omega, by simp⟩

/-- the library's variables, as they are laid -/
def Env (w : World) : Prop := (∃ m, w.cell? ⟨0, 0, none⟩ = some (.int .i64 m)) ∧ Lib.Utf8Tabs 1 2 w
theorem cellLt {w : World} {p : Addr} {u : Value} (h : w.cell? p = some u) : p.block < w.heap.size := World.block_lt_of_cell? w _ h
theorem Env.below {w w' : World} (h : Env w) (hb : Below w.heap.size w w') : Env w' := by
  obtain ⟨⟨m, hm⟩, h1, h2⟩ := h
  exact ⟨⟨m, (hb.cell (p := ⟨0, 0, none⟩) (cellLt hm)).trans hm⟩, fun c hc => (hb.cell (p := ⟨_, c, none⟩) (cellLt (h1 c hc))).trans (h1 c hc), fun i hi => ⟨(hb.cell (p := ⟨_, 2 * i, none⟩) (cellLt (h2 i hi).1)).trans (h2 i hi).1, (hb.cell (p := ⟨_, 2 * i + 1, none⟩) (cellLt (h2 i hi).2)).trans (h2 i hi).2⟩⟩

/-- a byte that is no rune -/
def brokenB (s : ByteArray) (i : Nat) : Bool := decide (Utf8.decode s i = (65533, 1))
set_option maxRecDepth 100000 in
set_option maxHeartbeats 800000 in
theorem broken_any (s : ByteArray) (i : Nat) (w : World) (he : Env w) (_hs : s.size ≤ 1099511627776) (hi : i < s.size) :
    Calls Tryd.prog 70 #[.string s, .int .i64 i, .int .i32 (Utf8.decode s i).1] w fun e w' => e = .returned (.bool (brokenB s i)) ∧ Below w.heap.size w w' := by
  have hc1 := (decode_fits s i hi).2.2.2
  by_cases h : (Utf8.decode s i).1 = 65533
  · have hz : (s.extract i s.size).size ≠ 0 := by rw [ByteArray.size_extract]; omega
    have hd := Tryd.utf8_DecodeRuneInString (s.extract i s.size) w he.2
    have hg : Lib.decodeGo (s.extract i s.size) = Utf8.decode s i := by unfold Lib.decodeGo; rw [if_neg hz, decode_ext s i hi]
    rw [hg] at hd
    have hb : brokenB s i = ((((Utf8.decode s i).2 : Nat) : Int) == 1) := by
      unfold brokenB
      rw [Bool.eq_iff_iff]
      simp only [decide_eq_true_eq, beq_iff_eq]
      constructor
      · intro e; rw [e]; rfl
      · intro e; exact Prod.ext h (by omega)
    rw [h] at hd ⊢
    have HD := Lib.hid hd
    have HB := Lib.hid hb
    have hi0 : (0 : Int) ≤ (i : Int) := by omega
    have hi1 : (i : Int) ≤ (s.size : Int) := by omega
    clear hd hb hg h hc1 he
    generalize (Utf8.decode s i).2 = n at *
    go_enter Tryd.func70, Tryd.ntmps70
    go_wp2_with fail
    refine HD.out.mono ?_
    rintro e w1 ⟨rfl, hb1⟩
    have HB1 := Lib.hid hb1
    clear hb1
    go_wp2
    go_ret
    exact ⟨ret_bool HB.out.symm, HB1.out⟩
  · have hb : brokenB s i = false := by
      unfold brokenB
      rw [decide_eq_false_iff_not]
      intro e; exact h (by rw [e])
    have hq : ((((Utf8.decode s i).1 : Nat) : Int) != 65533) = true := by simp; omega
    have HB := Lib.hid hb
    clear hb h he
    generalize (Utf8.decode s i).1 = c at *
    go_enter Tryd.func70, Tryd.ntmps70
    go_wp2
    go_ret
    exact ⟨ret_bool HB.out.symm, Below.refl _ _⟩
end Go.Proofs.YtaoejgnfoecpfaaDoor
