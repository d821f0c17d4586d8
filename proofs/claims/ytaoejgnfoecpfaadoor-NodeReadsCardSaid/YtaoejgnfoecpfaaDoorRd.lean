/- The document's Name, Count, Cut; the program's Count, Cut. -/
import Derived.Test.YtaoejgnfoecpfaaDoorRc
namespace Go.Proofs.YtaoejgnfoecpfaaDoor
open Go.RowKit

def strOf : Value → ByteArray
  | .string s => s
  | _ => ⟨#[]⟩
theorem ext_size (s : ByteArray) (p : Nat) : (s.extract p s.size).size = s.size - p := by rw [ByteArray.size_extract]; omega
theorem ext_ext (s : ByteArray) (p n : Nat) : (s.extract p s.size).extract n (s.extract p s.size).size = s.extract (p + n) s.size := by
  rw [ext_size]
  apply ByteArray.ext
  simp only [ByteArray.data_extract, Array.extract_extract]
  congr 1
  omega
theorem runeI_ext (s : ByteArray) (p : Nat) (h : p < s.size) : runeI (s.extract p s.size) = if brokenB s p = true then (-1, 1) else (((Utf8.decode s p).1 : Int), (Utf8.decode s p).2) := by
  unfold runeI brokenB
  rw [decode_ext s p h]
  simp
theorem broken_w {s : ByteArray} {p : Nat} (h : brokenB s p = true) : Utf8.decode s p = (65533, 1) := by simpa [brokenB] using h
theorem ext_nil (s : ByteArray) (p : Nat) (h : ¬ p < s.size) : (s.extract p s.size).toList.isEmpty = true := by
  rw [toList_isEmpty, ext_size]; exact decide_eq_true (by omega)
theorem ext_some (s : ByteArray) (p : Nat) (h : p < s.size) : (s.extract p s.size).toList.isEmpty = false := by
  rw [toList_isEmpty, ext_size]; exact decide_eq_false (by omega)
theorem ext_zero (s : ByteArray) : s.extract 0 s.size = s := by
  apply ByteArray.ext
  simp

set_option maxRecDepth 100000 in
set_option maxHeartbeats 3200000 in
theorem refname_any (s : ByteArray) (w : World) (hs : s.size ≤ 1099511627776) :
    Calls Tryd.prog 126 #[.string s] w fun e w' => e = .returned (.bool (nameOk s)) ∧ w = w' := by
  rcases dot_cases s with h | h | h | ⟨h0, h1, h2⟩
  · have := size0 h
    subst this
    have HN := Lib.hid (show nameOk ⟨#[]⟩ = false by decide +kernel)
    go_enter Tryd.func126, Tryd.ntmps126
    go_wp2
    go_ret
    exact ⟨ret_bool HN.out.symm, rfl⟩
  · subst h
    have HN := Lib.hid (show nameOk ⟨#[46]⟩ = false by decide +kernel)
    go_enter Tryd.func126, Tryd.ntmps126
    go_wp2
    go_ret
    exact ⟨ret_bool HN.out.symm, rfl⟩
  · subst h
    have HN := Lib.hid (show nameOk ⟨#[46, 46]⟩ = false by decide +kernel)
    go_enter Tryd.func126, Tryd.ntmps126
    go_wp2
    go_ret
    exact ⟨ret_bool HN.out.symm, rfl⟩
  · have hq1 := list_ne (l := [46]) h1
    have hq2 := list_ne (l := [46, 46]) h2
    have e1 : nameOk s = (decide (s.size ≤ 60) && nameFrom s s.size 0) := by
      unfold nameOk
      rw [decide_eq_true h0, decide_eq_true h1, decide_eq_true h2]; simp
    clear h1 h2
    by_cases hz : s.size ≤ 60
    · rw [decide_eq_true hz, Bool.true_and] at e1
      have E1 := Lib.hid e1
      have HZ0 := Lib.hid (ext_zero s)
      clear e1
      go_enter Tryd.func126, Tryd.ntmps126
      go_wp2
      go_loop [0] (fun t => ∃ (p f : Nat), t = .string (s.extract p s.size) ∧ p ≤ s.size ∧ nameFrom s f p = nameFrom s s.size 0 ∧ s.size ≤ p + f) (fun t => (strOf t).size)
      case atStart => exact ⟨0, s.size, by rw [HZ0.out], Nat.zero_le _, rfl, by omega⟩
      case round =>
        obtain ⟨p, f, rfl, hps, hn, hf⟩ := hrel
        have HN := Lib.hid hn
        clear hn hq1 hq2
        by_cases hp : p < s.size
        · have hem := ext_some s p hp
          have hfit := decode_fits s p hp
          have hR := rune_any (s.extract p s.size) w (by rw [ext_size]; omega) (by rw [ext_size]; omega)
          rw [runeI_ext s p hp] at hR
          have HR := Lib.hid hR
          have hstep := nameFrom_step s f p hp hf
          have HBAD := Lib.hid (nameFrom_bad s f p hp hf)
          have HBN := Lib.hid (show badN s p = (decide ((Utf8.decode s p).1 < 32) || decide ((Utf8.decode s p).1 = 47) || decide ((Utf8.decode s p).1 = 127) || brokenB s p) from rfl)
          have HSTEP := Lib.hid hstep
          have HEX := Lib.hid (ext_ext s p (Utf8.decode s p).2)
          have hsz := ext_size s p
          have hsz1 : (s.extract p s.size).size + p = s.size := by omega
          clear hR hstep hsz
          obtain ⟨f1, f2, f3, f4⟩ := hfit
          cases hbr : brokenB s p with
          | true =>
            have HF := Lib.hid (HBAD.out (by rw [HBN.out, hbr]; simp))
            rw [hbr, if_pos rfl] at HR
            clear hbr
            go_wp2_with fail
            refine HR.out.mono ?_
            rintro e w4 ⟨rfl, rfl⟩
            go_wp2
            go_ret
            exact ⟨ret_bool (by rw [E1.out, ← HN.out, HF.out]), rfl⟩
          | false =>
            rw [hbr, if_neg (by simp)] at HR
            have HBR := Lib.hid hbr
            clear hbr
            generalize (Utf8.decode s p).1 = c at *
            generalize (Utf8.decode s p).2 = n at *
            generalize hu : s.extract p s.size = u at *
            clear hu
            have hn0 : (0 : Int) ≤ (n : Int) := by omega
            have hn1 : (n : Int) ≤ (u.size : Int) := by omega
            rcases (by omega : (c : Int) < 32 ∨ ((32 : Int) ≤ (c : Int) ∧ c = 47) ∨ ((32 : Int) ≤ (c : Int) ∧ c ≠ 47 ∧ c = 127) ∨ ((32 : Int) ≤ (c : Int) ∧ c ≠ 47 ∧ c ≠ 127)) with g | ⟨g1, g2⟩ | ⟨g1, g2, g3⟩ | ⟨g1, g2, g3⟩
            · have HF := Lib.hid (HBAD.out (by rw [HBN.out, decide_eq_true (show c < 32 by omega)]; rfl))
              go_wp2_with fail
              refine HR.out.mono ?_
              rintro e w4 ⟨rfl, rfl⟩
              go_wp2
              go_ret
              exact ⟨ret_bool (by rw [E1.out, ← HN.out, HF.out]), rfl⟩
            · have HF := Lib.hid (HBAD.out (by rw [HBN.out, decide_eq_true g2]; simp))
              subst g2
              go_wp2_with fail
              refine HR.out.mono ?_
              rintro e w4 ⟨rfl, rfl⟩
              go_wp2
              go_ret
              exact ⟨ret_bool (by rw [E1.out, ← HN.out, HF.out]), rfl⟩
            · have HF := Lib.hid (HBAD.out (by rw [HBN.out, decide_eq_true g3]; simp))
              subst g3
              go_wp2_with fail
              refine HR.out.mono ?_
              rintro e w4 ⟨rfl, rfl⟩
              go_wp2
              go_ret
              exact ⟨ret_bool (by rw [E1.out, ← HN.out, HF.out]), rfl⟩
            · have q1 : ((c : Int) == 47) = false := by simp; omega
              have q2 : ((c : Int) == 127) = false := by simp; omega
              obtain ⟨g, e2, e3⟩ := HSTEP.out (by rw [HBN.out, decide_eq_false (show ¬ c < 32 by omega), decide_eq_false g2, decide_eq_false g3, HBR.out]; rfl)
              have HG := Lib.hid e2
              clear g2 g3 e2
              go_wp2_with fail
              refine HR.out.mono ?_
              rintro e w4 ⟨rfl, rfl⟩
              go_wp2
              go_round
              case rel => exact ⟨p + n, g, by rw [← HEX.out], by omega, HG.out.symm.trans HN.out, e3⟩
              case measure =>
                have := ext_size s (p + n)
                rw [← HEX.out] at this
                simp only [strOf]
                omega
        · have hem := ext_nil s p hp
          have HF := Lib.hid (nameFrom_end s f p hp)
          go_wp2
          go_ret
          exact ⟨ret_bool (by rw [E1.out, ← HN.out, HF.out]), rfl⟩
    · rw [decide_eq_false hz, Bool.false_and] at e1
      have E1 := Lib.hid e1
      clear e1
      go_enter Tryd.func126, Tryd.ntmps126
      go_wp2
      go_ret
      exact ⟨ret_bool E1.out.symm, rfl⟩
end Go.Proofs.YtaoejgnfoecpfaaDoor
