/- Names: the program's, and the document's. -/
import Derived.Test.YtaoejgnfoecpfaaDoorRb
import Derived.Lib.OthersKept
namespace Go.Proofs.YtaoejgnfoecpfaaDoor
open Go.RowKit

def badN (s : ByteArray) (p : Nat) : Bool := decide ((Utf8.decode s p).1 < 32) || decide ((Utf8.decode s p).1 = 47) || decide ((Utf8.decode s p).1 = 127) || brokenB s p
/-- are all runes from a place on such as a name may have? -/
def nameFrom (s : ByteArray) : Nat → Nat → Bool
  | 0, _ => true
  | f + 1, p => if p < s.size then (if badN s p = true then false else nameFrom s f (p + (Utf8.decode s p).2)) else true
def nameOk (s : ByteArray) : Bool := decide (1 ≤ s.size) && decide (s ≠ ⟨#[46]⟩) && decide (s ≠ ⟨#[46, 46]⟩) && decide (s.size ≤ 60) && nameFrom s s.size 0
theorem nameFrom_end (s : ByteArray) (f p : Nat) (h : ¬ p < s.size) : nameFrom s f p = true := by
  cases f with
  | zero => rfl
  | succ f => simp [nameFrom, h]
theorem nameFrom_step (s : ByteArray) (f p : Nat) (h : p < s.size) (hf : s.size ≤ p + f) (hb : badN s p = false) : ∃ g, nameFrom s f p = nameFrom s g (p + (Utf8.decode s p).2) ∧ s.size ≤ p + (Utf8.decode s p).2 + g := by
  obtain ⟨g, rfl⟩ : ∃ g, f = g + 1 := ⟨f - 1, by omega⟩
  have := (decode_fits s p h).1
  exact ⟨g, by simp [nameFrom, h, hb], by omega⟩
theorem nameFrom_bad (s : ByteArray) (f p : Nat) (h : p < s.size) (hf : s.size ≤ p + f) (hb : badN s p = true) : nameFrom s f p = false := by
  obtain ⟨g, rfl⟩ : ∃ g, f = g + 1 := ⟨f - 1, by omega⟩
  simp [nameFrom, h, hb]
theorem list_ne {s : ByteArray} {l : List UInt8} (h : s ≠ ⟨l.toArray⟩) : (s.toList == l) = false := by
  have : ¬ s.toList = l := fun e => h (by
    rw [ba_toList] at e
    exact ByteArray.ext (by rw [← e]))
  simpa using this
theorem toList_nil {s : ByteArray} (h : 1 ≤ s.size) : s.toList.isEmpty = false := by
  rw [toList_isEmpty]
  exact decide_eq_false (by omega)
theorem dot_cases (s : ByteArray) : s.size = 0 ∨ s = ⟨#[46]⟩ ∨ s = ⟨#[46, 46]⟩ ∨ (1 ≤ s.size ∧ s ≠ ⟨#[46]⟩ ∧ s ≠ ⟨#[46, 46]⟩) := by
  by_cases h0 : s.size = 0
  · exact Or.inl h0
  · by_cases h1 : s = ⟨#[46]⟩
    · exact Or.inr (Or.inl h1)
    · by_cases h2 : s = ⟨#[46, 46]⟩
      · exact Or.inr (Or.inr (Or.inl h2))
      · exact Or.inr (Or.inr (Or.inr ⟨by omega, h1, h2⟩))
theorem size0 {s : ByteArray} (h : s.size = 0) : s = ⟨#[]⟩ := by
  apply ByteArray.ext
  exact Array.eq_empty_of_size_eq_zero h

set_option maxRecDepth 100000 in
set_option maxHeartbeats 3200000 in
theorem pname_any (s : ByteArray) (w : World) (he : Env w) (hs : s.size ≤ 1099511627776) :
    Calls Tryd.prog 63 #[.string s] w fun e w' => e = .returned (.bool (nameOk s)) ∧ Below w.heap.size w w' := by
  have HE := Lib.hid fun W (hb : Below w.heap.size w W) => he.below hb
  clear he
  rcases dot_cases s with h | h | h | ⟨h0, h1, h2⟩
  · have := size0 h
    subst this
    have HN := Lib.hid (show nameOk ⟨#[]⟩ = false by decide +kernel)
    go_enter Tryd.func63, Tryd.ntmps63
    go_wp2
    go_ret
    exact ⟨ret_bool HN.out.symm, Below.refl _ _⟩
  · subst h
    have HN := Lib.hid (show nameOk ⟨#[46]⟩ = false by decide +kernel)
    go_enter Tryd.func63, Tryd.ntmps63
    go_wp2
    go_ret
    exact ⟨ret_bool HN.out.symm, Below.refl _ _⟩
  · subst h
    have HN := Lib.hid (show nameOk ⟨#[46, 46]⟩ = false by decide +kernel)
    go_enter Tryd.func63, Tryd.ntmps63
    go_wp2
    go_ret
    exact ⟨ret_bool HN.out.symm, Below.refl _ _⟩
  · have hq0 := toList_nil h0
    have hq1 := list_ne (l := [46]) h1
    have hq2 := list_ne (l := [46, 46]) h2
    have e1 : nameOk s = (decide (s.size ≤ 60) && nameFrom s s.size 0) := by
      unfold nameOk
      rw [decide_eq_true h0, decide_eq_true h1, decide_eq_true h2]; simp
    have H12 := Lib.hid (And.intro h1 h2)
    clear h1 h2
    by_cases hz : s.size ≤ 60
    · rw [decide_eq_true hz, Bool.true_and] at e1
      have E1 := Lib.hid e1
      clear e1
      go_enter Tryd.func63, Tryd.ntmps63
      go_wp2
      go_loopw [3] (fun _ wr => ∃ (p f : Nat), wr.heap[w.heap.size]? = some (.stringIter s p) ∧ Below w.heap.size w wr ∧ nameFrom s f p = nameFrom s s.size 0 ∧ s.size ≤ p + f) (fun _ wr => s.size - wr.iterPos w.heap.size)
      case atStart => exact ⟨0, s.size, World.iter_heap w s 0, (Below.refl _ w).alloc (Nat.le_refl _) _, rfl, by omega⟩
      case round =>
        obtain ⟨p, f, hit, hb, hn, hf⟩ := hrel
        have hpos : wr.iterPos w.heap.size = p := by unfold World.iterPos; rw [hit]
        have HPOS := Lib.hid hpos
        have HIT := Lib.hid hit
        have HN := Lib.hid hn
        clear hn hpos
        by_cases hp : p < s.size
        · have hnx : ∀ ty, (Instr.next (.pointer (some ⟨w.heap.size, 0, none⟩)) true ty).run Tryd.prog wr = _ := fun ty => Lib.run_next_any_at wr w.heap.size s p ty HIT.out hp
          have hfit := decode_fits s p hp
          have HW1 := Lib.hid (Lib.iterAt_heap wr w.heap.size s p (p + (Utf8.decode s p).2) hit)
          have HB1 := Lib.hid (Lib.below_iterAt hb (Nat.le_refl _) s (p + (Utf8.decode s p).2))
          have HBR := Lib.hid fun W (h : Env W) => broken_any s p W h hs hp
          have hbad := nameFrom_bad s f p hp hf
          have hstep := nameFrom_step s f p hp hf
          have hbN : badN s p = (decide ((Utf8.decode s p).1 < 32) || decide ((Utf8.decode s p).1 = 47) || decide ((Utf8.decode s p).1 = 127) || brokenB s p) := rfl
          have HBAD := Lib.hid hbad
          have HSTEP := Lib.hid hstep
          have HBN := Lib.hid hbN
          clear hbad hstep hbN hit hb
          obtain ⟨f1, f2, f3, f4⟩ := hfit
          generalize (Utf8.decode s p).1 = c at *
          generalize (Utf8.decode s p).2 = n at *
          have HE2 := Lib.hid (HE.out _ HB1.out)
          generalize hW2 : wr.iterAt w.heap.size s (p + n) = W2 at *
          have HW2 := Lib.hid hW2
          clear hW2
          rcases (by omega : (c : Int) < 32 ∨ ((32 : Int) ≤ (c : Int) ∧ c = 47) ∨ ((32 : Int) ≤ (c : Int) ∧ c ≠ 47 ∧ c = 127) ∨ ((32 : Int) ≤ (c : Int) ∧ c ≠ 47 ∧ c ≠ 127)) with g | ⟨g1, g2⟩ | ⟨g1, g2, g3⟩ | ⟨g1, g2, g3⟩
          · have HF := Lib.hid (HBAD.out (by rw [HBN.out, decide_eq_true (show c < 32 by omega)]; rfl))
            go_wp2
            go_ret
            exact ⟨ret_bool (by rw [E1.out, ← HN.out, HF.out]), HB1.out⟩
          · have HF := Lib.hid (HBAD.out (by rw [HBN.out, decide_eq_true g2]; simp))
            subst g2
            go_wp2
            go_ret
            exact ⟨ret_bool (by rw [E1.out, ← HN.out, HF.out]), HB1.out⟩
          · have HF := Lib.hid (HBAD.out (by rw [HBN.out, decide_eq_true g3]; simp))
            subst g3
            go_wp2
            go_ret
            exact ⟨ret_bool (by rw [E1.out, ← HN.out, HF.out]), HB1.out⟩
          · have q1 : ((c : Int) == 47) = false := by simp; omega
            have q2 : ((c : Int) == 127) = false := by simp; omega
            have HBB := Lib.hid (show badN s p = brokenB s p by rw [HBN.out, decide_eq_false (show ¬ c < 32 by omega), decide_eq_false g2, decide_eq_false g3]; rfl)
            clear g2 g3
            go_wp2_with fail
            refine (HBR.out _ HE2.out).mono ?_
            rintro e w4 ⟨rfl, hb4⟩
            have HB4 := Lib.hid hb4
            clear hb4 HBR
            cases hbr : brokenB s p with
            | true =>
              have HF := Lib.hid (HBAD.out (by rw [HBB.out, hbr]))
              clear hbr
              go_wp2
              go_ret
              exact ⟨ret_bool (by rw [E1.out, ← HN.out, HF.out]), HB1.out.trans (HB4.out.mono HB1.out.size)⟩
            | false =>
              obtain ⟨g, e2, e3⟩ := HSTEP.out (by rw [HBB.out, hbr])
              have HG := Lib.hid e2
              have HIT4 := Lib.hid ((HB4.out.block w.heap.size (Array.getElem?_eq_some_iff.1 HW1.out).1).trans HW1.out)
              clear hbr e2
              go_wp2
              go_roundw
              case rel => exact ⟨p + n, g, HIT4.out, HB1.out.trans (HB4.out.mono HB1.out.size), HG.out.symm.trans HN.out, e3⟩
              case measure =>
                have : w4.iterPos w.heap.size = p + n := by unfold World.iterPos; rw [HIT4.out]
                rw [this, HPOS.out]; omega
        · have hnx : ∀ ty, (Instr.next (.pointer (some ⟨w.heap.size, 0, none⟩)) true ty).run Tryd.prog wr = _ := fun ty => Lib.run_next_end_at wr w.heap.size s p ty HIT.out hp
          have HF := Lib.hid (nameFrom_end s f p hp)
          have HB := Lib.hid hb
          clear hb hit
          go_wp2
          go_ret
          exact ⟨ret_bool (by rw [E1.out, ← HN.out, HF.out]), HB.out⟩
    · rw [decide_eq_false hz, Bool.false_and] at e1
      have E1 := Lib.hid e1
      clear e1
      go_enter Tryd.func63, Tryd.ntmps63
      go_wp2
      go_ret
      exact ⟨ret_bool E1.out.symm, Below.refl _ _⟩
end Go.Proofs.YtaoejgnfoecpfaaDoor
