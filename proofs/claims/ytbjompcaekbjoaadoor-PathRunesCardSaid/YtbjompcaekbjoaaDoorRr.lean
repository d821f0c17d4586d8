/- The document's Fold, walked. -/
import Derived.Test.YtbjompcaekbjoaaDoorRq
namespace Go.Proofs.YtbjompcaekbjoaaDoor
open Go.RowKit

set_option maxRecDepth 100000 in
set_option maxHeartbeats 3200000 in
theorem reffold_any (s : ByteArray) (w : World) (hs : s.size ≤ 1000000) :
    Calls Tryd.prog 30 #[.string s] w fun e w' => e = .returned (.string (foldR s)) ∧ Below w.heap.size w w' := by
  have HZ0 := Lib.hid (ext_zero s)
  go_enter Tryd.func30, Tryd.ntmps30
  go_wp2
  go_loopw [0, 3] (fun t o wr => ∃ (p f : Nat) (l : List UInt8), t = .string (s.extract p s.size) ∧ o = .string (strB l) ∧ p ≤ s.size ∧ l ++ foldFrom s f p = foldFrom s s.size 0 ∧ s.size ≤ p + f ∧ l.length ≤ 4 * p ∧ Below w.heap.size w wr) (fun t _ _ => (strOf t).size)
  case atStart => exact ⟨0, s.size, [], by rw [HZ0.out], rfl, Nat.zero_le _, rfl, by omega, by simp, Below.refl _ _⟩
  case round =>
    obtain ⟨p, f, l, rfl, rfl, hps, hn, hf, hll, hbl⟩ := hrel
    have HN := Lib.hid hn
    have HB := Lib.hid hbl
    clear hn hbl
    by_cases hp : p < s.size
    · have hem := ext_some s p hp
      obtain ⟨f1, f2, f3, f4⟩ := decode_fits s p hp
      have hR := rune_any (s.extract p s.size) wr (by rw [ext_size]; omega) (by rw [ext_size]; omega)
      rw [runeI_ext s p hp] at hR
      have HR := Lib.hid hR
      obtain ⟨g, e2, e3⟩ := foldFrom_step s f p hp hf
      have HG := Lib.hid e2
      have HPL := Lib.hid (pieceL_len s p)
      have HPD := Lib.hid (show pieceL s p = if brokenB s p = true then [UInt8.ofNat (bAt s p)] else Lib.encodeRune (smallN (Utf8.decode s p).1) from rfl)
      have HEX := Lib.hid (ext_ext s p (Utf8.decode s p).2)
      have HT := Lib.hid (take_bytes s p (Utf8.decode s p).2 f3)
      have HT1 := Lib.hid (take_bytes s p 1 (by omega))
      have hsz := ext_size s p
      have hsz1 : (s.extract p s.size).size + p = s.size := by omega
      have hcs : (strB l).size = l.length := rfl
      have hx1 : ((s.extract p s.size).extract 0 1).size = 1 := by rw [ByteArray.size_extract]; omega
      have hxn : ((s.extract p s.size).extract 0 (Utf8.decode s p).2).size = (Utf8.decode s p).2 := by rw [ByteArray.size_extract]; omega
      clear hR e2 hsz
      cases hbr : brokenB s p with
      | true =>
        have hn1 := broken_w hbr
        have HP := Lib.hid (show pieceL s p = [UInt8.ofNat (bAt s p)] by rw [HPD.out, if_pos hbr])
        rw [hbr, if_pos rfl] at HR
        rw [show (Utf8.decode s p).2 = 1 by rw [hn1]] at *
        clear hbr HPD hn1
        generalize hu : s.extract p s.size = u at *
        clear hu
        have hcz : (strB l).size + (u.extract 0 1).size ≤ 8000000 := by omega
        go_wp2_with fail
        refine HR.out.mono ?_
        rintro e w4 ⟨rfl, rfl⟩
        go_wp2
        go_roundw
        case rel =>
          refine ⟨p + 1, g, l ++ [UInt8.ofNat (bAt s p)], by rw [← HEX.out], ?_, by omega, by rw [List.append_assoc, ← HP.out, ← HG.out]; exact HN.out, e3, by simp; omega, HB.out⟩
          rw [HT1.out, strB_app]
          simp
        case measure =>
          have := ext_size s (p + 1)
          rw [← HEX.out] at this
          simp only [strOf]
          omega
      | false =>
        have HP := Lib.hid (show pieceL s p = Lib.encodeRune (smallN (Utf8.decode s p).1) by rw [HPD.out, if_neg (by rw [hbr]; simp)])
        have HED := Lib.hid (enc_dec s p hbr)
        have HSM := Lib.hid (show ∀ z, smallN z = if (65 ≤ z ∧ z ≤ 90) ∨ (192 ≤ z ∧ z ≤ 222 ∧ z ≠ 215) ∨ (913 ≤ z ∧ z ≤ 937 ∧ z ≠ 930) ∨ (1040 ≤ z ∧ z ≤ 1071) then z + 32 else if 1024 ≤ z ∧ z ≤ 1039 then z + 80 else z from fun z => rfl)
        rw [hbr, if_neg (by simp)] at HR
        clear hbr HPD hx1
        generalize (Utf8.decode s p).1 = c at *
        generalize (Utf8.decode s p).2 = n at *
        generalize hu : s.extract p s.size = u at *
        clear hu
        have hn0 : (0 : Int) ≤ (n : Int) := by omega
        have hn1 : (n : Int) ≤ (u.size : Int) := by omega
        have hcz : (strB l).size + (u.extract 0 n).size ≤ 8000000 := by omega
        have hc0 : ¬ (c : Int) < 0 := by omega
        rcases (by omega : (c : Int) ≤ 64 ∨ ((65 : Int) ≤ c ∧ (c : Int) ≤ 90) ∨ ((91 : Int) ≤ c ∧ (c : Int) ≤ 191) ∨ ((192 : Int) ≤ c ∧ (c : Int) ≤ 214) ∨ c = 215 ∨ ((216 : Int) ≤ c ∧ (c : Int) ≤ 222) ∨ ((223 : Int) ≤ c ∧ (c : Int) ≤ 912) ∨ ((913 : Int) ≤ c ∧ (c : Int) ≤ 929) ∨ c = 930 ∨ ((931 : Int) ≤ c ∧ (c : Int) ≤ 937) ∨ ((938 : Int) ≤ c ∧ (c : Int) ≤ 1023) ∨ ((1024 : Int) ≤ c ∧ (c : Int) ≤ 1039) ∨ ((1040 : Int) ≤ c ∧ (c : Int) ≤ 1071) ∨ (1072 : Int) ≤ c) with g1 | ⟨g1, g2⟩ | ⟨g1, g2⟩ | ⟨g1, g2⟩ | rfl | ⟨g1, g2⟩ | ⟨g1, g2⟩ | ⟨g1, g2⟩ | rfl | ⟨g1, g2⟩ | ⟨g1, g2⟩ | ⟨g1, g2⟩ | ⟨g1, g2⟩ | g1
        · have HP2 := Lib.hid (show pieceL s p = Lib.encodeRune (c : Int) by rw [HP.out, HSM.out, if_neg (by omega), if_neg (by omega)])
          have q1 : ((c : Int) != 215) = true := by simp; omega
          have q2 : ((c : Int) != 930) = true := by simp; omega
          go_wp2_with fail
          refine HR.out.mono ?_
          rintro e w4 ⟨rfl, rfl⟩
          go_wp2
          go_roundw
          case rel =>
            refine ⟨p + n, g, l ++ pieceL s p, by rw [← HEX.out], ?_, by omega, by rw [List.append_assoc, ← HG.out]; exact HN.out, e3, by have := HPL.out.2; rw [List.length_append]; omega, HB.out⟩
            rw [HT.out, strB_app, HP2.out, HED.out]
          case measure =>
            have := ext_size s (p + n)
            rw [← HEX.out] at this
            simp only [strOf]
            omega
        · have HP2 := Lib.hid (show pieceL s p = Lib.encodeRune ((c + 32 : Nat) : Int) by rw [HP.out, HSM.out, if_pos (by omega)]; rfl)
          have q1 : ((c : Int) != 215) = true := by simp; omega
          have q2 : ((c : Int) != 930) = true := by simp; omega
          have HWR := Lib.hid fun W => write_any (c + 32) W (by omega)
          have hwz : (strB l).size + (strB (Lib.encodeRune ((c + 32 : Nat) : Int))).size ≤ 8000000 := by
            have h1 := HPL.out.2
            rw [HP2.out] at h1
            have h2 : (strB (Lib.encodeRune ((c + 32 : Nat) : Int))).size = (Lib.encodeRune ((c + 32 : Nat) : Int)).length := rfl
            omega
          rw [← HP2.out] at HWR hwz
          go_wp2_with fail
          refine HR.out.mono ?_
          rintro e w4 ⟨rfl, rfl⟩
          go_wp2_with fail
          refine (HWR.out _).mono ?_
          rintro e w5 ⟨rfl, hb5⟩
          have HB5 := Lib.hid (HB.out.trans (hb5.mono HB.out.size))
          clear hb5
          go_wp2
          go_roundw
          case rel => exact ⟨p + n, g, l ++ pieceL s p, by rw [← HEX.out], by rw [strB_app], by omega, by rw [List.append_assoc, ← HG.out]; exact HN.out, e3, by have := HPL.out.2; rw [List.length_append]; omega, HB5.out⟩
          case measure =>
            have := ext_size s (p + n)
            rw [← HEX.out] at this
            simp only [strOf]
            omega
        · have HP2 := Lib.hid (show pieceL s p = Lib.encodeRune (c : Int) by rw [HP.out, HSM.out, if_neg (by omega), if_neg (by omega)])
          have q1 : ((c : Int) != 215) = true := by simp; omega
          have q2 : ((c : Int) != 930) = true := by simp; omega
          go_wp2_with fail
          refine HR.out.mono ?_
          rintro e w4 ⟨rfl, rfl⟩
          go_wp2
          go_roundw
          case rel =>
            refine ⟨p + n, g, l ++ pieceL s p, by rw [← HEX.out], ?_, by omega, by rw [List.append_assoc, ← HG.out]; exact HN.out, e3, by have := HPL.out.2; rw [List.length_append]; omega, HB.out⟩
            rw [HT.out, strB_app, HP2.out, HED.out]
          case measure =>
            have := ext_size s (p + n)
            rw [← HEX.out] at this
            simp only [strOf]
            omega
        · have HP2 := Lib.hid (show pieceL s p = Lib.encodeRune ((c + 32 : Nat) : Int) by rw [HP.out, HSM.out, if_pos (by omega)]; rfl)
          have q1 : ((c : Int) != 215) = true := by simp; omega
          have q2 : ((c : Int) != 930) = true := by simp; omega
          have HWR := Lib.hid fun W => write_any (c + 32) W (by omega)
          have hwz : (strB l).size + (strB (Lib.encodeRune ((c + 32 : Nat) : Int))).size ≤ 8000000 := by
            have h1 := HPL.out.2
            rw [HP2.out] at h1
            have h2 : (strB (Lib.encodeRune ((c + 32 : Nat) : Int))).size = (Lib.encodeRune ((c + 32 : Nat) : Int)).length := rfl
            omega
          rw [← HP2.out] at HWR hwz
          go_wp2_with fail
          refine HR.out.mono ?_
          rintro e w4 ⟨rfl, rfl⟩
          go_wp2_with fail
          refine (HWR.out _).mono ?_
          rintro e w5 ⟨rfl, hb5⟩
          have HB5 := Lib.hid (HB.out.trans (hb5.mono HB.out.size))
          clear hb5
          go_wp2
          go_roundw
          case rel => exact ⟨p + n, g, l ++ pieceL s p, by rw [← HEX.out], by rw [strB_app], by omega, by rw [List.append_assoc, ← HG.out]; exact HN.out, e3, by have := HPL.out.2; rw [List.length_append]; omega, HB5.out⟩
          case measure =>
            have := ext_size s (p + n)
            rw [← HEX.out] at this
            simp only [strOf]
            omega
        · have HP2 := Lib.hid (show pieceL s p = Lib.encodeRune ((215 : Nat) : Int) by rw [HP.out]; rfl)
          go_wp2_with fail
          refine HR.out.mono ?_
          rintro e w4 ⟨rfl, rfl⟩
          go_wp2
          go_roundw
          case rel =>
            refine ⟨p + n, g, l ++ pieceL s p, by rw [← HEX.out], ?_, by omega, by rw [List.append_assoc, ← HG.out]; exact HN.out, e3, by have := HPL.out.2; rw [List.length_append]; omega, HB.out⟩
            rw [HT.out, strB_app, HP2.out, HED.out]
          case measure =>
            have := ext_size s (p + n)
            rw [← HEX.out] at this
            simp only [strOf]
            omega
        · have HP2 := Lib.hid (show pieceL s p = Lib.encodeRune ((c + 32 : Nat) : Int) by rw [HP.out, HSM.out, if_pos (by omega)]; rfl)
          have q1 : ((c : Int) != 215) = true := by simp; omega
          have q2 : ((c : Int) != 930) = true := by simp; omega
          have HWR := Lib.hid fun W => write_any (c + 32) W (by omega)
          have hwz : (strB l).size + (strB (Lib.encodeRune ((c + 32 : Nat) : Int))).size ≤ 8000000 := by
            have h1 := HPL.out.2
            rw [HP2.out] at h1
            have h2 : (strB (Lib.encodeRune ((c + 32 : Nat) : Int))).size = (Lib.encodeRune ((c + 32 : Nat) : Int)).length := rfl
            omega
          rw [← HP2.out] at HWR hwz
          go_wp2_with fail
          refine HR.out.mono ?_
          rintro e w4 ⟨rfl, rfl⟩
          go_wp2_with fail
          refine (HWR.out _).mono ?_
          rintro e w5 ⟨rfl, hb5⟩
          have HB5 := Lib.hid (HB.out.trans (hb5.mono HB.out.size))
          clear hb5
          go_wp2
          go_roundw
          case rel => exact ⟨p + n, g, l ++ pieceL s p, by rw [← HEX.out], by rw [strB_app], by omega, by rw [List.append_assoc, ← HG.out]; exact HN.out, e3, by have := HPL.out.2; rw [List.length_append]; omega, HB5.out⟩
          case measure =>
            have := ext_size s (p + n)
            rw [← HEX.out] at this
            simp only [strOf]
            omega
        · have HP2 := Lib.hid (show pieceL s p = Lib.encodeRune (c : Int) by rw [HP.out, HSM.out, if_neg (by omega), if_neg (by omega)])
          have q1 : ((c : Int) != 215) = true := by simp; omega
          have q2 : ((c : Int) != 930) = true := by simp; omega
          go_wp2_with fail
          refine HR.out.mono ?_
          rintro e w4 ⟨rfl, rfl⟩
          go_wp2
          go_roundw
          case rel =>
            refine ⟨p + n, g, l ++ pieceL s p, by rw [← HEX.out], ?_, by omega, by rw [List.append_assoc, ← HG.out]; exact HN.out, e3, by have := HPL.out.2; rw [List.length_append]; omega, HB.out⟩
            rw [HT.out, strB_app, HP2.out, HED.out]
          case measure =>
            have := ext_size s (p + n)
            rw [← HEX.out] at this
            simp only [strOf]
            omega
        · have HP2 := Lib.hid (show pieceL s p = Lib.encodeRune ((c + 32 : Nat) : Int) by rw [HP.out, HSM.out, if_pos (by omega)]; rfl)
          have q1 : ((c : Int) != 215) = true := by simp; omega
          have q2 : ((c : Int) != 930) = true := by simp; omega
          have HWR := Lib.hid fun W => write_any (c + 32) W (by omega)
          have hwz : (strB l).size + (strB (Lib.encodeRune ((c + 32 : Nat) : Int))).size ≤ 8000000 := by
            have h1 := HPL.out.2
            rw [HP2.out] at h1
            have h2 : (strB (Lib.encodeRune ((c + 32 : Nat) : Int))).size = (Lib.encodeRune ((c + 32 : Nat) : Int)).length := rfl
            omega
          rw [← HP2.out] at HWR hwz
          go_wp2_with fail
          refine HR.out.mono ?_
          rintro e w4 ⟨rfl, rfl⟩
          go_wp2_with fail
          refine (HWR.out _).mono ?_
          rintro e w5 ⟨rfl, hb5⟩
          have HB5 := Lib.hid (HB.out.trans (hb5.mono HB.out.size))
          clear hb5
          go_wp2
          go_roundw
          case rel => exact ⟨p + n, g, l ++ pieceL s p, by rw [← HEX.out], by rw [strB_app], by omega, by rw [List.append_assoc, ← HG.out]; exact HN.out, e3, by have := HPL.out.2; rw [List.length_append]; omega, HB5.out⟩
          case measure =>
            have := ext_size s (p + n)
            rw [← HEX.out] at this
            simp only [strOf]
            omega
        · have HP2 := Lib.hid (show pieceL s p = Lib.encodeRune ((930 : Nat) : Int) by rw [HP.out]; rfl)
          go_wp2_with fail
          refine HR.out.mono ?_
          rintro e w4 ⟨rfl, rfl⟩
          go_wp2
          go_roundw
          case rel =>
            refine ⟨p + n, g, l ++ pieceL s p, by rw [← HEX.out], ?_, by omega, by rw [List.append_assoc, ← HG.out]; exact HN.out, e3, by have := HPL.out.2; rw [List.length_append]; omega, HB.out⟩
            rw [HT.out, strB_app, HP2.out, HED.out]
          case measure =>
            have := ext_size s (p + n)
            rw [← HEX.out] at this
            simp only [strOf]
            omega
        · have HP2 := Lib.hid (show pieceL s p = Lib.encodeRune ((c + 32 : Nat) : Int) by rw [HP.out, HSM.out, if_pos (by omega)]; rfl)
          have q1 : ((c : Int) != 215) = true := by simp; omega
          have q2 : ((c : Int) != 930) = true := by simp; omega
          have HWR := Lib.hid fun W => write_any (c + 32) W (by omega)
          have hwz : (strB l).size + (strB (Lib.encodeRune ((c + 32 : Nat) : Int))).size ≤ 8000000 := by
            have h1 := HPL.out.2
            rw [HP2.out] at h1
            have h2 : (strB (Lib.encodeRune ((c + 32 : Nat) : Int))).size = (Lib.encodeRune ((c + 32 : Nat) : Int)).length := rfl
            omega
          rw [← HP2.out] at HWR hwz
          go_wp2_with fail
          refine HR.out.mono ?_
          rintro e w4 ⟨rfl, rfl⟩
          go_wp2_with fail
          refine (HWR.out _).mono ?_
          rintro e w5 ⟨rfl, hb5⟩
          have HB5 := Lib.hid (HB.out.trans (hb5.mono HB.out.size))
          clear hb5
          go_wp2
          go_roundw
          case rel => exact ⟨p + n, g, l ++ pieceL s p, by rw [← HEX.out], by rw [strB_app], by omega, by rw [List.append_assoc, ← HG.out]; exact HN.out, e3, by have := HPL.out.2; rw [List.length_append]; omega, HB5.out⟩
          case measure =>
            have := ext_size s (p + n)
            rw [← HEX.out] at this
            simp only [strOf]
            omega
        · have HP2 := Lib.hid (show pieceL s p = Lib.encodeRune (c : Int) by rw [HP.out, HSM.out, if_neg (by omega), if_neg (by omega)])
          have q1 : ((c : Int) != 215) = true := by simp; omega
          have q2 : ((c : Int) != 930) = true := by simp; omega
          go_wp2_with fail
          refine HR.out.mono ?_
          rintro e w4 ⟨rfl, rfl⟩
          go_wp2
          go_roundw
          case rel =>
            refine ⟨p + n, g, l ++ pieceL s p, by rw [← HEX.out], ?_, by omega, by rw [List.append_assoc, ← HG.out]; exact HN.out, e3, by have := HPL.out.2; rw [List.length_append]; omega, HB.out⟩
            rw [HT.out, strB_app, HP2.out, HED.out]
          case measure =>
            have := ext_size s (p + n)
            rw [← HEX.out] at this
            simp only [strOf]
            omega
        · have HP2 := Lib.hid (show pieceL s p = Lib.encodeRune ((c + 80 : Nat) : Int) by rw [HP.out, HSM.out, if_neg (by omega), if_pos (by omega)]; rfl)
          have q1 : ((c : Int) != 215) = true := by simp; omega
          have q2 : ((c : Int) != 930) = true := by simp; omega
          have HWR := Lib.hid fun W => write_any (c + 80) W (by omega)
          have hwz : (strB l).size + (strB (Lib.encodeRune ((c + 80 : Nat) : Int))).size ≤ 8000000 := by
            have h1 := HPL.out.2
            rw [HP2.out] at h1
            have h2 : (strB (Lib.encodeRune ((c + 80 : Nat) : Int))).size = (Lib.encodeRune ((c + 80 : Nat) : Int)).length := rfl
            omega
          rw [← HP2.out] at HWR hwz
          go_wp2_with fail
          refine HR.out.mono ?_
          rintro e w4 ⟨rfl, rfl⟩
          go_wp2_with fail
          refine (HWR.out _).mono ?_
          rintro e w5 ⟨rfl, hb5⟩
          have HB5 := Lib.hid (HB.out.trans (hb5.mono HB.out.size))
          clear hb5
          go_wp2
          go_roundw
          case rel => exact ⟨p + n, g, l ++ pieceL s p, by rw [← HEX.out], by rw [strB_app], by omega, by rw [List.append_assoc, ← HG.out]; exact HN.out, e3, by have := HPL.out.2; rw [List.length_append]; omega, HB5.out⟩
          case measure =>
            have := ext_size s (p + n)
            rw [← HEX.out] at this
            simp only [strOf]
            omega
        · have HP2 := Lib.hid (show pieceL s p = Lib.encodeRune ((c + 32 : Nat) : Int) by rw [HP.out, HSM.out, if_pos (by omega)]; rfl)
          have q1 : ((c : Int) != 215) = true := by simp; omega
          have q2 : ((c : Int) != 930) = true := by simp; omega
          have HWR := Lib.hid fun W => write_any (c + 32) W (by omega)
          have hwz : (strB l).size + (strB (Lib.encodeRune ((c + 32 : Nat) : Int))).size ≤ 8000000 := by
            have h1 := HPL.out.2
            rw [HP2.out] at h1
            have h2 : (strB (Lib.encodeRune ((c + 32 : Nat) : Int))).size = (Lib.encodeRune ((c + 32 : Nat) : Int)).length := rfl
            omega
          rw [← HP2.out] at HWR hwz
          go_wp2_with fail
          refine HR.out.mono ?_
          rintro e w4 ⟨rfl, rfl⟩
          go_wp2_with fail
          refine (HWR.out _).mono ?_
          rintro e w5 ⟨rfl, hb5⟩
          have HB5 := Lib.hid (HB.out.trans (hb5.mono HB.out.size))
          clear hb5
          go_wp2
          go_roundw
          case rel => exact ⟨p + n, g, l ++ pieceL s p, by rw [← HEX.out], by rw [strB_app], by omega, by rw [List.append_assoc, ← HG.out]; exact HN.out, e3, by have := HPL.out.2; rw [List.length_append]; omega, HB5.out⟩
          case measure =>
            have := ext_size s (p + n)
            rw [← HEX.out] at this
            simp only [strOf]
            omega
        · have HP2 := Lib.hid (show pieceL s p = Lib.encodeRune (c : Int) by rw [HP.out, HSM.out, if_neg (by omega), if_neg (by omega)])
          have q1 : ((c : Int) != 215) = true := by simp; omega
          have q2 : ((c : Int) != 930) = true := by simp; omega
          go_wp2_with fail
          refine HR.out.mono ?_
          rintro e w4 ⟨rfl, rfl⟩
          go_wp2
          go_roundw
          case rel =>
            refine ⟨p + n, g, l ++ pieceL s p, by rw [← HEX.out], ?_, by omega, by rw [List.append_assoc, ← HG.out]; exact HN.out, e3, by have := HPL.out.2; rw [List.length_append]; omega, HB.out⟩
            rw [HT.out, strB_app, HP2.out, HED.out]
          case measure =>
            have := ext_size s (p + n)
            rw [← HEX.out] at this
            simp only [strOf]
            omega
    · have hem := ext_nil s p hp
      have HF := Lib.hid (foldFrom_end s f p hp)
      go_wp2
      go_ret
      exact ⟨ret_str (by unfold foldR; rw [← HN.out, HF.out, List.append_nil]; rfl), HB.out⟩
end Go.Proofs.YtbjompcaekbjoaaDoor
