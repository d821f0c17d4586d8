/- Counting and cutting by runes: the program's, and the document's. -/
import Derived.Test.YtbjompcaekbjoaaDoorRd
namespace Go.Proofs.YtbjompcaekbjoaaDoor
open Go.RowKit

/-- how many runes from a place on -/
def cntFrom (s : ByteArray) : Nat → Nat → Nat
  | 0, _ => 0
  | f + 1, p => if p < s.size then cntFrom s f (p + (Utf8.decode s p).2) + 1 else 0
def cntR (s : ByteArray) : Nat := cntFrom s s.size 0
/-- where so many runes from a place on end -/
def cutFrom (s : ByteArray) : Nat → Nat → Int → Nat
  | 0, p, _ => p
  | f + 1, p, n => if p < s.size ∧ 0 < n then cutFrom s f (p + (Utf8.decode s p).2) (n - 1) else p
def cutR (s : ByteArray) (n : Int) : ByteArray := s.extract 0 (cutFrom s s.size 0 n)
theorem cntFrom_end (s : ByteArray) (f p : Nat) (h : ¬ p < s.size) : cntFrom s f p = 0 := by
  cases f with
  | zero => rfl
  | succ f => simp [cntFrom, h]
theorem cntFrom_step (s : ByteArray) (f p : Nat) (h : p < s.size) (hf : s.size ≤ p + f) : ∃ g, cntFrom s f p = cntFrom s g (p + (Utf8.decode s p).2) + 1 ∧ s.size ≤ p + (Utf8.decode s p).2 + g := by
  obtain ⟨g, rfl⟩ : ∃ g, f = g + 1 := ⟨f - 1, by omega⟩
  have := (decode_fits s p h).1
  exact ⟨g, by simp [cntFrom, h], by omega⟩
theorem cntFrom_le (s : ByteArray) : ∀ f p, p ≤ s.size → cntFrom s f p + p ≤ s.size
  | 0, p, h => by simp [cntFrom]; exact h
  | f + 1, p, h => by
    unfold cntFrom
    split
    · next hp =>
      have h1 := decode_fits s p hp
      have := cntFrom_le s f (p + (Utf8.decode s p).2) h1.2.2.1
      omega
    · omega
theorem cutFrom_end (s : ByteArray) (f p : Nat) (n : Int) (h : ¬ (p < s.size ∧ 0 < n)) : cutFrom s f p n = p := by
  cases f with
  | zero => rfl
  | succ f => simp only [cutFrom]; rw [if_neg h]
theorem cutFrom_step (s : ByteArray) (f p : Nat) (n : Int) (h : p < s.size) (hn : 0 < n) (hf : s.size ≤ p + f) : ∃ g, cutFrom s f p n = cutFrom s g (p + (Utf8.decode s p).2) (n - 1) ∧ s.size ≤ p + (Utf8.decode s p).2 + g := by
  obtain ⟨g, rfl⟩ : ∃ g, f = g + 1 := ⟨f - 1, by omega⟩
  have := (decode_fits s p h).1
  exact ⟨g, by simp only [cutFrom]; rw [if_pos ⟨h, hn⟩], by omega⟩

set_option maxRecDepth 100000 in
set_option maxHeartbeats 1600000 in
theorem pcount_any (s : ByteArray) (w : World) (hs : s.size ≤ 1099511627776) :
    Calls Tryd.prog 31 #[.string s] w fun e w' => e = .returned (.int .i64 (cntR s)) ∧ Below w.heap.size w w' := by
  have hcl := cntFrom_le s s.size 0 (Nat.zero_le _)
  go_enter Tryd.func31, Tryd.ntmps31
  go_wp2
  go_loopw [3] (fun t wr => ∃ (k p f : Nat), t = .int .i64 (k : Nat) ∧ wr.heap[w.heap.size]? = some (.stringIter s p) ∧ Below w.heap.size w wr ∧ k + cntFrom s f p = cntFrom s s.size 0 ∧ s.size ≤ p + f) (fun _ wr => s.size - wr.iterPos w.heap.size)
  case atStart => exact ⟨0, 0, s.size, rfl, World.iter_heap w s 0, (Below.refl _ w).alloc (Nat.le_refl _) _, by omega, by omega⟩
  case round =>
    obtain ⟨k, p, f, rfl, hit, hb, hn, hf⟩ := hrel
    have HPOS := Lib.hid (show wr.iterPos w.heap.size = p by unfold World.iterPos; rw [hit])
    have HIT := Lib.hid hit
    have HN := Lib.hid hn
    by_cases hp : p < s.size
    · have hnx : ∀ ty, (Instr.next (.pointer (some ⟨w.heap.size, 0, none⟩)) true ty).run Tryd.prog wr = _ := fun ty => Lib.run_next_any_at wr w.heap.size s p ty HIT.out hp
      have f1 := (decode_fits s p hp).1
      have HW1 := Lib.hid (Lib.iterAt_heap wr w.heap.size s p (p + (Utf8.decode s p).2) hit)
      have HB1 := Lib.hid (Lib.below_iterAt hb (Nat.le_refl _) s (p + (Utf8.decode s p).2))
      obtain ⟨g, e2, e3⟩ := cntFrom_step s f p hp hf
      have hkk : k + 1 ≤ s.size := by omega
      have HG := Lib.hid e2
      clear e2 hn hit hb hcl
      generalize (Utf8.decode s p).1 = c at *
      generalize (Utf8.decode s p).2 = n at *
      generalize hW2 : wr.iterAt w.heap.size s (p + n) = W2 at *
      clear hW2
      go_wp2
      go_roundw
      case rel => exact ⟨k + 1, p + n, g, by go_num, HW1.out, HB1.out, by have := HN.out; have := HG.out; omega, e3⟩
      case measure =>
        have : W2.iterPos w.heap.size = p + n := by unfold World.iterPos; rw [HW1.out]
        rw [this, HPOS.out]; omega
    · have hnx : ∀ ty, (Instr.next (.pointer (some ⟨w.heap.size, 0, none⟩)) true ty).run Tryd.prog wr = _ := fun ty => Lib.run_next_end_at wr w.heap.size s p ty HIT.out hp
      have HF := Lib.hid (cntFrom_end s f p hp)
      have HB := Lib.hid hb
      clear hb hit hn hcl
      go_wp2
      go_ret
      exact ⟨ret_int (by unfold cntR; rw [← HN.out, HF.out]; rfl), HB.out⟩

set_option maxRecDepth 100000 in
set_option maxHeartbeats 1600000 in
theorem refcount_any (s : ByteArray) (w : World) (hs : s.size ≤ 1099511627776) :
    Calls Tryd.prog 32 #[.string s] w fun e w' => e = .returned (.int .i64 (cntR s)) ∧ w = w' := by
  have hcl := cntFrom_le s s.size 0 (Nat.zero_le _)
  have HZ0 := Lib.hid (ext_zero s)
  go_enter Tryd.func32, Tryd.ntmps32
  go_wp2
  go_loop [0, 3] (fun t i => ∃ (k p f : Nat), t = .string (s.extract p s.size) ∧ i = .int .i64 (k : Nat) ∧ p ≤ s.size ∧ k + cntFrom s f p = cntFrom s s.size 0 ∧ s.size ≤ p + f) (fun t _ => (strOf t).size)
  case atStart => exact ⟨0, 0, s.size, by rw [HZ0.out], rfl, Nat.zero_le _, by omega, by omega⟩
  case round =>
    obtain ⟨k, p, f, rfl, rfl, hps, hn, hf⟩ := hrel
    have HN := Lib.hid hn
    by_cases hp : p < s.size
    · have hem := ext_some s p hp
      obtain ⟨f1, f2, f3, f4⟩ := decode_fits s p hp
      have hR := rune_any (s.extract p s.size) w (by rw [ext_size]; omega) (by rw [ext_size]; omega)
      have hw : (runeI (s.extract p s.size)).2 = (Utf8.decode s p).2 := by
        rw [runeI_ext s p hp]
        split
        · next hbr => rw [broken_w hbr]
        · rfl
      rw [hw] at hR
      have HR := Lib.hid hR
      obtain ⟨g, e2, e3⟩ := cntFrom_step s f p hp hf
      have hkk : k + 1 ≤ s.size := by omega
      have HG := Lib.hid e2
      have HEX := Lib.hid (ext_ext s p (Utf8.decode s p).2)
      have hsz := ext_size s p
      have hsz1 : (s.extract p s.size).size + p = s.size := by omega
      clear hR e2 hn hcl hsz hw
      generalize (Utf8.decode s p).2 = n at *
      generalize hu : s.extract p s.size = u at *
      clear hu
      generalize (runeI u).1 = c at *
      have hn0 : (0 : Int) ≤ (n : Int) := by omega
      have hn1 : (n : Int) ≤ (u.size : Int) := by omega
      go_wp2_with fail
      refine HR.out.mono ?_
      rintro e w4 ⟨rfl, rfl⟩
      go_wp2
      go_round
      case rel => exact ⟨k + 1, p + n, g, by rw [← HEX.out], by go_num, by omega, by have := HN.out; have := HG.out; omega, e3⟩
      case measure =>
        have := ext_size s (p + n)
        rw [← HEX.out] at this
        simp only [strOf]
        omega
    · have hem := ext_nil s p hp
      have HF := Lib.hid (cntFrom_end s f p hp)
      clear hn hcl
      go_wp2
      go_ret
      exact ⟨ret_int (by unfold cntR; rw [← HN.out, HF.out]; rfl), rfl⟩

set_option maxRecDepth 100000 in
set_option maxHeartbeats 1600000 in
theorem pcut_any (s : ByteArray) (m : Int) (w : World) (_hs : s.size ≤ 1099511627776) (hm : -9223372036854775808 ≤ m ∧ m ≤ 9223372036854775807) :
    Calls Tryd.prog 33 #[.string s, .int .i64 m] w fun e w' => e = .returned (.string (cutR s m)) ∧ Below w.heap.size w w' := by
  obtain ⟨m1, m2⟩ := hm
  have HZ0 := Lib.hid (ext_zero s)
  go_enter Tryd.func33, Tryd.ntmps33
  go_wp2
  go_loopw [1] (fun t wr => ∃ (k : Int) (p f : Nat), t = .int .i64 k ∧ k ≤ m ∧ (m ≤ 0 → k = m ∧ p = 0) ∧ (0 < m → 0 ≤ k) ∧ wr.heap[w.heap.size]? = some (.stringIter s p) ∧ Below w.heap.size w wr ∧ p ≤ s.size ∧ cutFrom s f p k = cutFrom s s.size 0 m ∧ s.size ≤ p + f) (fun _ wr => s.size - wr.iterPos w.heap.size)
  case atStart => exact ⟨m, 0, s.size, rfl, Int.le_refl _, fun _ => ⟨rfl, rfl⟩, fun h => by omega, World.iter_heap w s 0, (Below.refl _ w).alloc (Nat.le_refl _) _, Nat.zero_le _, rfl, by omega⟩
  case round =>
    obtain ⟨k, p, f, rfl, hkm, hk0, hk1, hit, hb, hps, hn, hf⟩ := hrel
    have HPOS := Lib.hid (show wr.iterPos w.heap.size = p by unfold World.iterPos; rw [hit])
    have HIT := Lib.hid hit
    have HN := Lib.hid hn
    have HK := Lib.hid (And.intro hk0 hk1)
    have hklo : -9223372036854775808 ≤ k := by
      by_cases h : m ≤ 0
      · have := (hk0 h).1; omega
      · have := hk1 (by omega); omega
    clear hk0 hk1
    by_cases hp : p < s.size
    · have hnx : ∀ ty, (Instr.next (.pointer (some ⟨w.heap.size, 0, none⟩)) true ty).run Tryd.prog wr = _ := fun ty => Lib.run_next_any_at wr w.heap.size s p ty HIT.out hp
      have f1 := (decode_fits s p hp).1
      have f3 := (decode_fits s p hp).2.2.1
      have HW1 := Lib.hid (Lib.iterAt_heap wr w.heap.size s p (p + (Utf8.decode s p).2) hit)
      have HB1 := Lib.hid (Lib.below_iterAt hb (Nat.le_refl _) s (p + (Utf8.decode s p).2))
      by_cases hk : k ≤ 0
      · have HF := Lib.hid (cutFrom_end s f p k (by omega))
        clear hn hit hb
        generalize (Utf8.decode s p).1 = c at *
        generalize (Utf8.decode s p).2 = n at *
        generalize hW2 : wr.iterAt w.heap.size s (p + n) = W2 at *
        clear hW2
        go_wp2
        go_ret
        exact ⟨ret_str (by unfold cutR; rw [← HN.out, HF.out]), HB1.out⟩
      · obtain ⟨g, e2, e3⟩ := cutFrom_step s f p k hp (by omega) hf
        have HG := Lib.hid e2
        clear e2 hn hit hb
        generalize (Utf8.decode s p).1 = c at *
        generalize (Utf8.decode s p).2 = n at *
        generalize hW2 : wr.iterAt w.heap.size s (p + n) = W2 at *
        clear hW2
        go_wp2
        go_roundw
        case rel => exact ⟨k - 1, p + n, g, rfl, by omega, fun h => by omega, fun h => by omega, HW1.out, HB1.out, by omega, HG.out.symm.trans HN.out, e3⟩
        case measure =>
          have : W2.iterPos w.heap.size = p + n := by unfold World.iterPos; rw [HW1.out]
          rw [this, HPOS.out]; omega
    · have hnx : ∀ ty, (Instr.next (.pointer (some ⟨w.heap.size, 0, none⟩)) true ty).run Tryd.prog wr = _ := fun ty => Lib.run_next_end_at wr w.heap.size s p ty HIT.out hp
      have HF := Lib.hid (cutFrom_end s f p k (by omega))
      have HB := Lib.hid hb
      clear hb hit hn
      go_wp2
      go_ret
      exact ⟨ret_str (by unfold cutR; rw [← HN.out, HF.out, show p = s.size by omega, HZ0.out]), HB.out⟩

set_option maxRecDepth 100000 in
set_option maxHeartbeats 1600000 in
theorem refcut_any (s : ByteArray) (m : Int) (w : World) (hs : s.size ≤ 1099511627776) (hm : -9223372036854775808 ≤ m ∧ m ≤ 9223372036854775807) :
    Calls Tryd.prog 34 #[.string s, .int .i64 m] w fun e w' => e = .returned (.string (cutR s m)) ∧ w = w' := by
  obtain ⟨m1, m2⟩ := hm
  go_enter Tryd.func34, Tryd.ntmps34
  go_wp2
  go_loop [5, 6] (fun t i => ∃ (k p f : Nat), t = .int .i64 (p : Nat) ∧ i = .int .i64 (k : Nat) ∧ k ≤ p ∧ p ≤ s.size ∧ cutFrom s f p (m - k) = cutFrom s s.size 0 m ∧ s.size ≤ p + f) (fun t _ => s.size - (intOf t).toNat)
  case atStart => exact ⟨0, 0, s.size, rfl, rfl, Nat.le_refl _, Nat.zero_le _, by simp, by omega⟩
  case round =>
    obtain ⟨k, p, f, rfl, rfl, hkp, hps, hn, hf⟩ := hrel
    have HN := Lib.hid hn
    by_cases hc : (k : Int) < m ∧ p < s.size
    · obtain ⟨hkm, hp⟩ := hc
      obtain ⟨f1, f2, f3, f4⟩ := decode_fits s p hp
      have hR := rune_any (s.extract p s.size) w (by rw [ext_size]; omega) (by rw [ext_size]; omega)
      have hw : (runeI (s.extract p s.size)).2 = (Utf8.decode s p).2 := by
        rw [runeI_ext s p hp]
        split
        · next hbr => rw [broken_w hbr]
        · rfl
      rw [hw] at hR
      have HR := Lib.hid hR
      obtain ⟨g, e2, e3⟩ := cutFrom_step s f p (m - k) hp (by omega) hf
      have HG := Lib.hid e2
      clear hR e2 hn hw
      generalize (runeI (s.extract p s.size)).1 = c at *
      generalize (Utf8.decode s p).2 = n at *
      go_wp2_with fail
      refine HR.out.mono ?_
      rintro e w4 ⟨rfl, rfl⟩
      go_wp2
      go_round
      case rel => exact ⟨k + 1, p + n, g, by go_num, by go_num, by omega, by omega, by rw [show m - ((k + 1 : Nat) : Int) = m - k - 1 by omega]; exact HG.out.symm.trans HN.out, e3⟩
      case measure => simp [intOf]; omega
    · have HF := Lib.hid (cutFrom_end s f p (m - k) (by omega))
      clear hn
      rcases (by omega : ¬ (k : Int) < m ∨ ((k : Int) < m ∧ ¬ p < s.size)) with h1 | ⟨h1, h2⟩
      all_goals
        clear hc
        go_wp2
        go_ret
        exact ⟨ret_str (by unfold cutR; rw [← HN.out, HF.out]), rfl⟩
end Go.Proofs.YtbjompcaekbjoaaDoor
