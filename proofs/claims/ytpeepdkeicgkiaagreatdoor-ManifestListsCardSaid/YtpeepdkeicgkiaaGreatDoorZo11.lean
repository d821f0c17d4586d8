/- The document's Name, Count, Cut; the program's Count, Cut. manifest.Check and the document's Good: words; printed by wip/gen/mkcheck.py. manifest.Check: printed by wip/gen/mkcheck.py. Manifests: writing, the program's. -/
import Derived.Test.YtpeepdkeicgkiaaGreatDoorZo3
import Derived.Test.YtpeepdkeicgkiaaGreatDoorZo4
import Derived.Deep.RegionHeld3
import Derived.Deep.DeepCutAuto
namespace Go.Proofs.YtpeepdkeicgkiaaGreatDoor
set_option linter.unusedVariables false
set_option linter.unusedSimpArgs false
set_option linter.unusedSectionVars false
open Go.RowKit

def strOf : Value → ByteArray
  | .string s => s
  | _ => ⟨#[]⟩
theorem ext_size (s : ByteArray) (p : Nat) : (s.extract p s.size).size = s.size - p := by rw [ByteArray.size_extract]; omega
theorem ext_ext (s : ByteArray) (p n : Nat) : (s.extract p s.size).extract n (s.extract p s.size).size = s.extract (p + n) s.size := by
  rw [ext_size]
  apply ByteArray.ext
  simp only [ByteArray.data_extract, Array.extract_extract]
  congr 1
  omega
theorem runeI_ext (s : ByteArray) (p : Nat) (h : p < s.size) : runeI (s.extract p s.size) = if brokenB s p = true then (-1, 1) else (((Utf8.decode s p).1 : Int), (Utf8.decode s p).2) := by
  unfold runeI brokenB
  rw [decode_ext s p h]
  simp
theorem broken_w {s : ByteArray} {p : Nat} (h : brokenB s p = true) : Utf8.decode s p = (65533, 1) := by simpa [brokenB] using h
theorem ext_nil (s : ByteArray) (p : Nat) (h : ¬ p < s.size) : (s.extract p s.size).toList.isEmpty = true := by
  rw [toList_isEmpty, ext_size]; exact decide_eq_true (by omega)
theorem ext_some (s : ByteArray) (p : Nat) (h : p < s.size) : (s.extract p s.size).toList.isEmpty = false := by
  rw [toList_isEmpty, ext_size]; exact decide_eq_false (by omega)
theorem ext_zero (s : ByteArray) : s.extract 0 s.size = s := by
  apply ByteArray.ext
  simp

set_option maxRecDepth 100000 in
set_option maxHeartbeats 3200000 in
theorem refname_any (s : ByteArray) (w : World) (hs : s.size ≤ 1099511627776) :
    Calls Tryz.prog 52 #[.string s] w fun e w' => e = .returned (.bool (nameOk s)) ∧ w = w' := by
  rcases dot_cases s with h | h | h | ⟨h0, h1, h2⟩
  · have := size0 h
    subst this
    have HN := Lib.hid (show nameOk ⟨#[]⟩ = false by decide +kernel)
    go_enter Tryz.func52, Tryz.ntmps52
    go_wp2
    go_ret
    exact ⟨ret_bool HN.out.symm, rfl⟩
  · subst h
    have HN := Lib.hid (show nameOk ⟨#[46]⟩ = false by decide +kernel)
    go_enter Tryz.func52, Tryz.ntmps52
    go_wp2
    go_ret
    exact ⟨ret_bool HN.out.symm, rfl⟩
  · subst h
    have HN := Lib.hid (show nameOk ⟨#[46, 46]⟩ = false by decide +kernel)
    go_enter Tryz.func52, Tryz.ntmps52
    go_wp2
    go_ret
    exact ⟨ret_bool HN.out.symm, rfl⟩
  · have hq1 := list_ne (l := [46]) h1
    have hq2 := list_ne (l := [46, 46]) h2
    have e1 : nameOk s = (decide (s.size ≤ 60) && nameFrom s s.size 0) := by
      unfold nameOk
      rw [decide_eq_true h0, decide_eq_true h1, decide_eq_true h2]; simp
    clear h1 h2
    by_cases hz : s.size ≤ 60
    · rw [decide_eq_true hz, Bool.true_and] at e1
      have E1 := Lib.hid e1
      have HZ0 := Lib.hid (ext_zero s)
      clear e1
      go_enter Tryz.func52, Tryz.ntmps52
      go_wp2
      go_loop [0] (fun t => ∃ (p f : Nat), t = .string (s.extract p s.size) ∧ p ≤ s.size ∧ nameFrom s f p = nameFrom s s.size 0 ∧ s.size ≤ p + f) (fun t => (strOf t).size)
      case atStart => exact ⟨0, s.size, by rw [HZ0.out], Nat.zero_le _, rfl, by omega⟩
      case round =>
        obtain ⟨p, f, rfl, hps, hn, hf⟩ := hrel
        have HN := Lib.hid hn
        clear hn hq1 hq2
        by_cases hp : p < s.size
        · have hem := ext_some s p hp
          have hfit := decode_fits s p hp
          have hR := rune_any (s.extract p s.size) w (by rw [ext_size]; omega) (by rw [ext_size]; omega)
          rw [runeI_ext s p hp] at hR
          have HR := Lib.hid hR
          have hstep := nameFrom_step s f p hp hf
          have HBAD := Lib.hid (nameFrom_bad s f p hp hf)
          have HBN := Lib.hid (show badN s p = (decide ((Utf8.decode s p).1 < 32) || decide ((Utf8.decode s p).1 = 47) || decide ((Utf8.decode s p).1 = 127) || brokenB s p) from rfl)
          have HSTEP := Lib.hid hstep
          have HEX := Lib.hid (ext_ext s p (Utf8.decode s p).2)
          have hsz := ext_size s p
          have hsz1 : (s.extract p s.size).size + p = s.size := by omega
          clear hR hstep hsz
          obtain ⟨f1, f2, f3, f4⟩ := hfit
          cases hbr : brokenB s p with
          | true =>
            have HF := Lib.hid (HBAD.out (by rw [HBN.out, hbr]; simp))
            rw [hbr, if_pos rfl] at HR
            clear hbr
            go_wp2_with fail
            refine HR.out.mono ?_
            rintro e w4 ⟨rfl, rfl⟩
            go_wp2
            go_ret
            exact ⟨ret_bool (by rw [E1.out, ← HN.out, HF.out]), rfl⟩
          | false =>
            rw [hbr, if_neg (by simp)] at HR
            have HBR := Lib.hid hbr
            clear hbr
            generalize (Utf8.decode s p).1 = c at *
            generalize (Utf8.decode s p).2 = n at *
            generalize hu : s.extract p s.size = u at *
            clear hu
            have hn0 : (0 : Int) ≤ (n : Int) := by omega
            have hn1 : (n : Int) ≤ (u.size : Int) := by omega
            rcases (by omega : (c : Int) < 32 ∨ ((32 : Int) ≤ (c : Int) ∧ c = 47) ∨ ((32 : Int) ≤ (c : Int) ∧ c ≠ 47 ∧ c = 127) ∨ ((32 : Int) ≤ (c : Int) ∧ c ≠ 47 ∧ c ≠ 127)) with g | ⟨g1, g2⟩ | ⟨g1, g2, g3⟩ | ⟨g1, g2, g3⟩
            · have HF := Lib.hid (HBAD.out (by rw [HBN.out, decide_eq_true (show c < 32 by omega)]; rfl))
              go_wp2_with fail
              refine HR.out.mono ?_
              rintro e w4 ⟨rfl, rfl⟩
              go_wp2
              go_ret
              exact ⟨ret_bool (by rw [E1.out, ← HN.out, HF.out]), rfl⟩
            · have HF := Lib.hid (HBAD.out (by rw [HBN.out, decide_eq_true g2]; simp))
              subst g2
              go_wp2_with fail
              refine HR.out.mono ?_
              rintro e w4 ⟨rfl, rfl⟩
              go_wp2
              go_ret
              exact ⟨ret_bool (by rw [E1.out, ← HN.out, HF.out]), rfl⟩
            · have HF := Lib.hid (HBAD.out (by rw [HBN.out, decide_eq_true g3]; simp))
              subst g3
              go_wp2_with fail
              refine HR.out.mono ?_
              rintro e w4 ⟨rfl, rfl⟩
              go_wp2
              go_ret
              exact ⟨ret_bool (by rw [E1.out, ← HN.out, HF.out]), rfl⟩
            · have q1 : ((c : Int) == 47) = false := by simp; omega
              have q2 : ((c : Int) == 127) = false := by simp; omega
              obtain ⟨g, e2, e3⟩ := HSTEP.out (by rw [HBN.out, decide_eq_false (show ¬ c < 32 by omega), decide_eq_false g2, decide_eq_false g3, HBR.out]; rfl)
              have HG := Lib.hid e2
              clear g2 g3 e2
              go_wp2_with fail
              refine HR.out.mono ?_
              rintro e w4 ⟨rfl, rfl⟩
              go_wp2
              go_round
              case rel => exact ⟨p + n, g, by rw [← HEX.out], by omega, HG.out.symm.trans HN.out, e3⟩
              case measure =>
                have := ext_size s (p + n)
                rw [← HEX.out] at this
                simp only [strOf]
                omega
        · have hem := ext_nil s p hp
          have HF := Lib.hid (nameFrom_end s f p hp)
          go_wp2
          go_ret
          exact ⟨ret_bool (by rw [E1.out, ← HN.out, HF.out]), rfl⟩
    · rw [decide_eq_false hz, Bool.false_and] at e1
      have E1 := Lib.hid e1
      clear e1
      go_enter Tryz.func52, Tryz.ntmps52
      go_wp2
      go_ret
      exact ⟨ret_bool E1.out.symm, rfl⟩
end Go.Proofs.YtpeepdkeicgkiaaGreatDoor
namespace Go.Proofs.YtpeepdkeicgkiaaGreatDoor
set_option linter.unusedVariables false
set_option linter.unusedSimpArgs false
set_option linter.unusedSectionVars false
open Go.RowKit

/-- texts at an address, if there are any -/
def StrsA (W : World) (B : Nat) (A : Option Addr) (l : List ByteArray) : Prop := 0 < l.length → ∃ b o, A = some ⟨b, o, none⟩ ∧ b < B ∧ ∀ (j : Nat) (u : ByteArray), l[j]? = some u → W.cell? ⟨b, o + j, none⟩ = some (.string u)
def manV (m : Man) (A : Option Addr) (c : Nat) : Value := .agg #[.int .i64 m.time, .string m.tag, .string m.parent, .int .i64 m.size, .slice A m.chunks.length c]
/-- the program's error for what is, or isn't, in form -/
def errI (g : Bool) : Int := if g = true then 0 else 4
/-- a manifest's own bounds -/
def ManB (m : Man) : Prop := -9223372036854775808 ≤ m.time ∧ m.time ≤ 9223372036854775807 ∧ -9223372036854775808 ≤ m.size ∧ m.size ≤ 9223372036854775807 ∧ m.tag.size ≤ 140737488355328 ∧ m.parent.size ≤ 140737488355328 ∧ m.chunks.length ≤ 140737488355328
theorem pname_bigM (s : ByteArray) (w : World) (he : Env w) (hs : s.size ≤ 140737488355328) : Calls Tryz.prog 74 #[.string s] w fun e w' => e = .returned (.bool (nameOk s)) ∧ Below w.heap.size w w' := by
  by_cases h : s.size ≤ 1099511627776
  · exact pname_any s w he h
  · have HN := Lib.hid (show nameOk s = false by unfold nameOk; rw [decide_eq_false (show ¬ s.size ≤ 60 by omega)]; simp)
    have ne : ∀ (l : List UInt8), l.length < 10 → s ≠ ⟨l.toArray⟩ := fun l hl e => by
      have : s.size = l.length := by rw [e]; exact List.size_toArray
      omega
    have hq0 := toList_nil (s := s) (by omega)
    have hq1 := list_ne (ne [46] (by decide))
    have hq2 := list_ne (ne [46, 46] (by decide))
    have h60 : (60 : Int) < (s.size : Int) := by omega
    clear ne
    go_enter Tryz.func74, Tryz.ntmps74
    go_wp2
    go_ret
    exact ⟨ret_bool HN.out.symm, Below.refl _ _⟩
theorem refname_bigM (s : ByteArray) (w : World) (hs : s.size ≤ 140737488355328) : Calls Tryz.prog 52 #[.string s] w fun e w' => e = .returned (.bool (nameOk s)) ∧ w = w' := by
  by_cases h : s.size ≤ 1099511627776
  · exact refname_any s w h
  · have HN := Lib.hid (show nameOk s = false by unfold nameOk; rw [decide_eq_false (show ¬ s.size ≤ 60 by omega)]; simp)
    have h1 : ¬ (s.size : Int) < 1 := by omega
    have h60 : (60 : Int) < (s.size : Int) := by omega
    go_enter Tryz.func52, Tryz.ntmps52
    go_wp2
    go_ret
    exact ⟨ret_bool HN.out.symm, rfl⟩
theorem named_bigM (s : ByteArray) (w : World) (hs : s.size ≤ 140737488355328) : Calls Tryz.prog 28 #[.string s] w fun e w' => e = .returned (.bool (isNameD s)) ∧ Below w.heap.size w w' := by
  by_cases h : s.size ≤ 1099511627776
  · exact named_any s w h
  · have HN := Lib.hid (show isNameD s = false by unfold isNameD; rw [decide_eq_false (by omega)]; simp)
    have hq : ((s.size : Int) == 64) = false := by simp; omega
    go_enter Tryz.func28, Tryz.ntmps28
    go_wp2
    go_ret
    exact ⟨ret_bool HN.out.symm, Below.refl _ _⟩

end Go.Proofs.YtpeepdkeicgkiaaGreatDoor
namespace Go.Proofs.YtpeepdkeicgkiaaGreatDoor
set_option linter.unusedVariables false
set_option linter.unusedSimpArgs false
set_option linter.unusedSectionVars false
open Go.RowKit

set_option maxRecDepth 100000 in
set_option maxHeartbeats 3200000 in
theorem mcheck_any (m : Man) (A : Option Addr) (c : Nat) (w : World) (he : Env w) (hst : StrsA w w.heap.size A m.chunks) (hb : ManB m) :
    Calls Tryz.prog 39 #[manV m A c] w fun e w' => e = .returned (.int .i64 (errI (goodM m))) ∧ Below w.heap.size w w' := by
  have HE := Lib.hid fun W (hb : Below w.heap.size w W) => he.below hb
  obtain ⟨tm, tag, par, sz, l⟩ := m
  obtain ⟨q1, q2, q3, q4, q5, q6, q7⟩ := hb
  unfold manV
  simp only at q1 q2 q3 q4 q5 q6 q7 hst ⊢
  have HG := Lib.hid (show goodM ⟨tm, tag, par, sz, l⟩ = (decide (0 ≤ tm ∧ tm ≤ 253402300799) && (decide (tag.size = 0) || nameOk tag) && (decide (par.size = 0) || isNameD par) && decide (1 ≤ sz ∧ sz ≤ 4194304 ∧ 1 ≤ l.length ∧ (l.length : Int) ≤ sz) && l.all fun c => decide (c.size = 32)) from rfl)
  have hte := toList_isEmpty tag
  have hpe := toList_isEmpty par
  have HN := Lib.hid fun W (h : Env W) => pname_bigM tag W h q5
  have HD := Lib.hid fun W => dis_any par W q6
  have HST := Lib.hid hst
  have HB0 := Lib.hid ((Below.refl w.heap.size w).alloc (Nat.le_refl _) (.cells #[.int .i64 tm, .string tag, .string par, .int .i64 sz, .slice A l.length c] 32))
  have HBL := Lib.hid (Blk.new w 32 #[.int .i64 tm, .string tag, .string par, .int .i64 sz, .slice A l.length c])
  clear hst he
  generalize hgd : goodM ⟨tm, tag, par, sz, l⟩ = gd at *
  clear hgd
  by_cases h1 : 0 ≤ tm ∧ tm ≤ 253402300799
  · rw [decide_eq_true h1, Bool.true_and] at HG
    obtain ⟨t1, t2⟩ := h1
    have t1' : ¬ tm < 0 := by omega
    have t2' : ¬ 253402300799 < tm := by omega
    by_cases ht : tag.size = 0
    · rw [decide_eq_true ht] at hte HG
      clear ht
      simp only [Bool.true_or, Bool.true_and] at HG
      by_cases hp : par.size = 0
      · rw [decide_eq_true hp] at hpe HG
        clear hp
        simp only [Bool.true_or, Bool.true_and] at HG
        by_cases hz : 1 ≤ sz ∧ sz ≤ 4194304 ∧ 1 ≤ l.length ∧ (l.length : Int) ≤ sz
        · rw [decide_eq_true hz, Bool.true_and] at HG
          obtain ⟨z1, z2, z3, z4⟩ := hz
          have z1' : ¬ sz < 1 := by omega
          have z2' : ¬ 4194304 < sz := by omega
          have z3' : ¬ (l.length : Int) < 1 := by omega
          have z4' : ¬ sz < (l.length : Int) := by omega
          go_enter Tryz.func39, Tryz.ntmps39
          obtain ⟨bk, off, rfl, hbk, hcell⟩ := HST.out (by omega)
          have HC := Lib.hid fun (j : Nat) (u : ByteArray) (hj : l[j]? = some u) => (show (w.alloc (.cells #[.int .i64 tm, .string tag, .string par, .int .i64 sz, .slice (some ⟨bk, off, none⟩) l.length c] 32)).cell? ⟨bk, off + j, none⟩ = some (.string u) from (HB0.out.cell (p := ⟨bk, off + j, none⟩) hbk).trans (hcell j u hj))
          clear hcell
          go_wp2
          go_loop [60] (fun t => ∃ k : Nat, t = .int .i64 (k : Nat) ∧ k ≤ l.length ∧ (l.drop k).all (fun c => decide (c.size = 32)) = l.all (fun c => decide (c.size = 32))) (fun t => l.length - (intOf t).toNat)
          case atStart => exact ⟨0, rfl, Nat.zero_le _, rfl⟩
          case round =>
            obtain ⟨k, rfl, hk, hn⟩ := hrel
            have HNN := Lib.hid hn
            clear hn
            by_cases hkl : k < l.length
            · have hcx := HC.out k l[k] (List.getElem?_eq_getElem hkl)
              have HDX := Lib.hid (List.drop_eq_getElem_cons hkl)
              generalize l[k] = x at *
              by_cases h32 : x.size = 32
              · have HX := Lib.hid (show (x :: l.drop (k + 1)).all (fun c => decide (c.size = 32)) = (l.drop (k + 1)).all (fun c => decide (c.size = 32)) by rw [List.all_cons, decide_eq_true h32, Bool.true_and])
                have hq : ((x.size : Int) != 32) = false := by simp; omega
                clear h32
                go_wp2
                go_round
                case rel => exact ⟨k + 1, by go_num, by omega, by rw [← HX.out, ← HDX.out]; exact HNN.out⟩
                case measure => simp [intOf]; omega
              · have HX := Lib.hid (show gd = false by rw [HG.out, ← HNN.out, HDX.out, List.all_cons, decide_eq_false h32]; rfl)
                have hq : ((x.size : Int) != 32) = true := by simp; omega
                clear h32
                go_wp2
                go_ret
                exact ⟨ret_int (by rw [HX.out]; rfl), HB0.out⟩
            · have HX := Lib.hid (show gd = true by rw [HG.out, ← HNN.out, List.drop_of_length_le (by omega)]; rfl)
              go_wp2
              go_ret
              exact ⟨ret_int (by rw [HX.out]; rfl), HB0.out⟩
        · have HX := Lib.hid (show gd = false by rw [HG.out, decide_eq_false hz]; simp)
          rcases (by omega : sz < 1 ∨ (¬ sz < 1 ∧ 4194304 < sz) ∨ (¬ sz < 1 ∧ ¬ 4194304 < sz ∧ (l.length : Int) < 1) ∨ (¬ sz < 1 ∧ ¬ 4194304 < sz ∧ ¬ (l.length : Int) < 1 ∧ sz < (l.length : Int))) with g | ⟨g1, g⟩ | ⟨g1, g2, g⟩ | ⟨g1, g2, g3, g⟩
          all_goals
            clear hz
            go_enter Tryz.func39, Tryz.ntmps39
            go_wp2
            go_ret
            exact ⟨ret_int (by rw [HX.out]; rfl), HB0.out⟩
      · rw [decide_eq_false hp] at hpe HG
        clear hp
        simp only [Bool.false_or] at HG
        cases hd : isNameD par with
        | false =>
          rw [hd] at HG
          rw [hd] at HD
          clear hd
          have HX := Lib.hid (show gd = false by rw [HG.out]; simp)
          go_enter Tryz.func39, Tryz.ntmps39
          go_wp2_with fail
          refine (HD.out _).mono ?_
          rintro e w2 ⟨rfl, hb2⟩
          have HB2 := Lib.hid (HB0.out.trans (hb2.mono HB0.out.size))
          have HBL2 := Lib.hid (HBL.out.below hb2 (by simp))
          clear hb2
          have k0w2 : w2.cell? ⟨w.heap.size, 0, none⟩ = some (.int .i64 tm) := HBL2.out.cell 0
          have k1w2 : w2.cell? ⟨w.heap.size, 1, none⟩ = some (.string tag) := HBL2.out.cell 1
          have k2w2 : w2.cell? ⟨w.heap.size, 2, none⟩ = some (.string par) := HBL2.out.cell 2
          have k3w2 : w2.cell? ⟨w.heap.size, 3, none⟩ = some (.int .i64 sz) := HBL2.out.cell 3
          have k4w2 : w2.cell? ⟨w.heap.size, 4, none⟩ = some (.slice A l.length c) := HBL2.out.cell 4
          go_wp2
          go_ret
          exact ⟨ret_int (by rw [HX.out]; rfl), HB2.out⟩
        | true =>
          rw [hd, Bool.true_and] at HG
          rw [hd] at HD
          clear hd
          by_cases hz : 1 ≤ sz ∧ sz ≤ 4194304 ∧ 1 ≤ l.length ∧ (l.length : Int) ≤ sz
          · rw [decide_eq_true hz, Bool.true_and] at HG
            obtain ⟨z1, z2, z3, z4⟩ := hz
            have z1' : ¬ sz < 1 := by omega
            have z2' : ¬ 4194304 < sz := by omega
            have z3' : ¬ (l.length : Int) < 1 := by omega
            have z4' : ¬ sz < (l.length : Int) := by omega
            go_enter Tryz.func39, Tryz.ntmps39
            go_wp2_with fail
            refine (HD.out _).mono ?_
            rintro e w2 ⟨rfl, hb2⟩
            have HB2 := Lib.hid (HB0.out.trans (hb2.mono HB0.out.size))
            have HBL2 := Lib.hid (HBL.out.below hb2 (by simp))
            clear hb2
            have k0w2 : w2.cell? ⟨w.heap.size, 0, none⟩ = some (.int .i64 tm) := HBL2.out.cell 0
            have k1w2 : w2.cell? ⟨w.heap.size, 1, none⟩ = some (.string tag) := HBL2.out.cell 1
            have k2w2 : w2.cell? ⟨w.heap.size, 2, none⟩ = some (.string par) := HBL2.out.cell 2
            have k3w2 : w2.cell? ⟨w.heap.size, 3, none⟩ = some (.int .i64 sz) := HBL2.out.cell 3
            have k4w2 : w2.cell? ⟨w.heap.size, 4, none⟩ = some (.slice A l.length c) := HBL2.out.cell 4
            obtain ⟨bk, off, rfl, hbk, hcell⟩ := HST.out (by omega)
            have HC := Lib.hid fun (j : Nat) (u : ByteArray) (hj : l[j]? = some u) => (show w2.cell? ⟨bk, off + j, none⟩ = some (.string u) from (HB2.out.cell (p := ⟨bk, off + j, none⟩) hbk).trans (hcell j u hj))
            clear hcell
            go_wp2
            go_loop [60] (fun t => ∃ k : Nat, t = .int .i64 (k : Nat) ∧ k ≤ l.length ∧ (l.drop k).all (fun c => decide (c.size = 32)) = l.all (fun c => decide (c.size = 32))) (fun t => l.length - (intOf t).toNat)
            case atStart => exact ⟨0, rfl, Nat.zero_le _, rfl⟩
            case round =>
              obtain ⟨k, rfl, hk, hn⟩ := hrel
              have HNN := Lib.hid hn
              clear hn
              by_cases hkl : k < l.length
              · have hcx := HC.out k l[k] (List.getElem?_eq_getElem hkl)
                have HDX := Lib.hid (List.drop_eq_getElem_cons hkl)
                generalize l[k] = x at *
                by_cases h32 : x.size = 32
                · have HX := Lib.hid (show (x :: l.drop (k + 1)).all (fun c => decide (c.size = 32)) = (l.drop (k + 1)).all (fun c => decide (c.size = 32)) by rw [List.all_cons, decide_eq_true h32, Bool.true_and])
                  have hq : ((x.size : Int) != 32) = false := by simp; omega
                  clear h32
                  go_wp2
                  go_round
                  case rel => exact ⟨k + 1, by go_num, by omega, by rw [← HX.out, ← HDX.out]; exact HNN.out⟩
                  case measure => simp [intOf]; omega
                · have HX := Lib.hid (show gd = false by rw [HG.out, ← HNN.out, HDX.out, List.all_cons, decide_eq_false h32]; rfl)
                  have hq : ((x.size : Int) != 32) = true := by simp; omega
                  clear h32
                  go_wp2
                  go_ret
                  exact ⟨ret_int (by rw [HX.out]; rfl), HB2.out⟩
              · have HX := Lib.hid (show gd = true by rw [HG.out, ← HNN.out, List.drop_of_length_le (by omega)]; rfl)
                go_wp2
                go_ret
                exact ⟨ret_int (by rw [HX.out]; rfl), HB2.out⟩
          · have HX := Lib.hid (show gd = false by rw [HG.out, decide_eq_false hz]; simp)
            rcases (by omega : sz < 1 ∨ (¬ sz < 1 ∧ 4194304 < sz) ∨ (¬ sz < 1 ∧ ¬ 4194304 < sz ∧ (l.length : Int) < 1) ∨ (¬ sz < 1 ∧ ¬ 4194304 < sz ∧ ¬ (l.length : Int) < 1 ∧ sz < (l.length : Int))) with g | ⟨g1, g⟩ | ⟨g1, g2, g⟩ | ⟨g1, g2, g3, g⟩
            all_goals
              clear hz
              go_enter Tryz.func39, Tryz.ntmps39
              go_wp2_with fail
              refine (HD.out _).mono ?_
              rintro e w2 ⟨rfl, hb2⟩
              have HB2 := Lib.hid (HB0.out.trans (hb2.mono HB0.out.size))
              have HBL2 := Lib.hid (HBL.out.below hb2 (by simp))
              clear hb2
              have k0w2 : w2.cell? ⟨w.heap.size, 0, none⟩ = some (.int .i64 tm) := HBL2.out.cell 0
              have k1w2 : w2.cell? ⟨w.heap.size, 1, none⟩ = some (.string tag) := HBL2.out.cell 1
              have k2w2 : w2.cell? ⟨w.heap.size, 2, none⟩ = some (.string par) := HBL2.out.cell 2
              have k3w2 : w2.cell? ⟨w.heap.size, 3, none⟩ = some (.int .i64 sz) := HBL2.out.cell 3
              have k4w2 : w2.cell? ⟨w.heap.size, 4, none⟩ = some (.slice A l.length c) := HBL2.out.cell 4
              go_wp2
              go_ret
              exact ⟨ret_int (by rw [HX.out]; rfl), HB2.out⟩
    · rw [decide_eq_false ht] at hte HG
      clear ht
      simp only [Bool.false_or] at HG
      cases hn : nameOk tag with
      | false =>
        rw [hn] at HG HN
        have HX := Lib.hid (show gd = false by rw [HG.out]; simp)
        clear hn
        go_enter Tryz.func39, Tryz.ntmps39
        go_wp2_with fail
        refine (HN.out _ (HE.out _ HB0.out)).mono ?_
        rintro e w1 ⟨rfl, hb1⟩
        go_wp2
        go_ret
        exact ⟨ret_int (by rw [HX.out]; rfl), HB0.out.trans (hb1.mono HB0.out.size)⟩
      | true =>
        rw [hn, Bool.true_and] at HG
        rw [hn] at HN
        clear hn
        by_cases hp : par.size = 0
        · rw [decide_eq_true hp] at hpe HG
          clear hp
          simp only [Bool.true_or, Bool.true_and] at HG
          by_cases hz : 1 ≤ sz ∧ sz ≤ 4194304 ∧ 1 ≤ l.length ∧ (l.length : Int) ≤ sz
          · rw [decide_eq_true hz, Bool.true_and] at HG
            obtain ⟨z1, z2, z3, z4⟩ := hz
            have z1' : ¬ sz < 1 := by omega
            have z2' : ¬ 4194304 < sz := by omega
            have z3' : ¬ (l.length : Int) < 1 := by omega
            have z4' : ¬ sz < (l.length : Int) := by omega
            go_enter Tryz.func39, Tryz.ntmps39
            go_wp2_with fail
            refine (HN.out _ (HE.out _ HB0.out)).mono ?_
            rintro e w1 ⟨rfl, hb1⟩
            have HB1 := Lib.hid (HB0.out.trans (hb1.mono HB0.out.size))
            have HBL1 := Lib.hid (HBL.out.below hb1 (by simp))
            clear hb1
            have k0w1 : w1.cell? ⟨w.heap.size, 0, none⟩ = some (.int .i64 tm) := HBL1.out.cell 0
            have k1w1 : w1.cell? ⟨w.heap.size, 1, none⟩ = some (.string tag) := HBL1.out.cell 1
            have k2w1 : w1.cell? ⟨w.heap.size, 2, none⟩ = some (.string par) := HBL1.out.cell 2
            have k3w1 : w1.cell? ⟨w.heap.size, 3, none⟩ = some (.int .i64 sz) := HBL1.out.cell 3
            have k4w1 : w1.cell? ⟨w.heap.size, 4, none⟩ = some (.slice A l.length c) := HBL1.out.cell 4
            obtain ⟨bk, off, rfl, hbk, hcell⟩ := HST.out (by omega)
            have HC := Lib.hid fun (j : Nat) (u : ByteArray) (hj : l[j]? = some u) => (show w1.cell? ⟨bk, off + j, none⟩ = some (.string u) from (HB1.out.cell (p := ⟨bk, off + j, none⟩) hbk).trans (hcell j u hj))
            clear hcell
            go_wp2
            go_loop [60] (fun t => ∃ k : Nat, t = .int .i64 (k : Nat) ∧ k ≤ l.length ∧ (l.drop k).all (fun c => decide (c.size = 32)) = l.all (fun c => decide (c.size = 32))) (fun t => l.length - (intOf t).toNat)
            case atStart => exact ⟨0, rfl, Nat.zero_le _, rfl⟩
            case round =>
              obtain ⟨k, rfl, hk, hn⟩ := hrel
              have HNN := Lib.hid hn
              clear hn
              by_cases hkl : k < l.length
              · have hcx := HC.out k l[k] (List.getElem?_eq_getElem hkl)
                have HDX := Lib.hid (List.drop_eq_getElem_cons hkl)
                generalize l[k] = x at *
                by_cases h32 : x.size = 32
                · have HX := Lib.hid (show (x :: l.drop (k + 1)).all (fun c => decide (c.size = 32)) = (l.drop (k + 1)).all (fun c => decide (c.size = 32)) by rw [List.all_cons, decide_eq_true h32, Bool.true_and])
                  have hq : ((x.size : Int) != 32) = false := by simp; omega
                  clear h32
                  go_wp2
                  go_round
                  case rel => exact ⟨k + 1, by go_num, by omega, by rw [← HX.out, ← HDX.out]; exact HNN.out⟩
                  case measure => simp [intOf]; omega
                · have HX := Lib.hid (show gd = false by rw [HG.out, ← HNN.out, HDX.out, List.all_cons, decide_eq_false h32]; rfl)
                  have hq : ((x.size : Int) != 32) = true := by simp; omega
                  clear h32
                  go_wp2
                  go_ret
                  exact ⟨ret_int (by rw [HX.out]; rfl), HB1.out⟩
              · have HX := Lib.hid (show gd = true by rw [HG.out, ← HNN.out, List.drop_of_length_le (by omega)]; rfl)
                go_wp2
                go_ret
                exact ⟨ret_int (by rw [HX.out]; rfl), HB1.out⟩
          · have HX := Lib.hid (show gd = false by rw [HG.out, decide_eq_false hz]; simp)
            rcases (by omega : sz < 1 ∨ (¬ sz < 1 ∧ 4194304 < sz) ∨ (¬ sz < 1 ∧ ¬ 4194304 < sz ∧ (l.length : Int) < 1) ∨ (¬ sz < 1 ∧ ¬ 4194304 < sz ∧ ¬ (l.length : Int) < 1 ∧ sz < (l.length : Int))) with g | ⟨g1, g⟩ | ⟨g1, g2, g⟩ | ⟨g1, g2, g3, g⟩
            all_goals
              clear hz
              go_enter Tryz.func39, Tryz.ntmps39
              go_wp2_with fail
              refine (HN.out _ (HE.out _ HB0.out)).mono ?_
              rintro e w1 ⟨rfl, hb1⟩
              have HB1 := Lib.hid (HB0.out.trans (hb1.mono HB0.out.size))
              have HBL1 := Lib.hid (HBL.out.below hb1 (by simp))
              clear hb1
              have k0w1 : w1.cell? ⟨w.heap.size, 0, none⟩ = some (.int .i64 tm) := HBL1.out.cell 0
              have k1w1 : w1.cell? ⟨w.heap.size, 1, none⟩ = some (.string tag) := HBL1.out.cell 1
              have k2w1 : w1.cell? ⟨w.heap.size, 2, none⟩ = some (.string par) := HBL1.out.cell 2
              have k3w1 : w1.cell? ⟨w.heap.size, 3, none⟩ = some (.int .i64 sz) := HBL1.out.cell 3
              have k4w1 : w1.cell? ⟨w.heap.size, 4, none⟩ = some (.slice A l.length c) := HBL1.out.cell 4
              go_wp2
              go_ret
              exact ⟨ret_int (by rw [HX.out]; rfl), HB1.out⟩
        · rw [decide_eq_false hp] at hpe HG
          clear hp
          simp only [Bool.false_or] at HG
          cases hd : isNameD par with
          | false =>
            rw [hd] at HG
            rw [hd] at HD
            clear hd
            have HX := Lib.hid (show gd = false by rw [HG.out]; simp)
            go_enter Tryz.func39, Tryz.ntmps39
            go_wp2_with fail
            refine (HN.out _ (HE.out _ HB0.out)).mono ?_
            rintro e w1 ⟨rfl, hb1⟩
            have HB1 := Lib.hid (HB0.out.trans (hb1.mono HB0.out.size))
            have HBL1 := Lib.hid (HBL.out.below hb1 (by simp))
            clear hb1
            have k0w1 : w1.cell? ⟨w.heap.size, 0, none⟩ = some (.int .i64 tm) := HBL1.out.cell 0
            have k1w1 : w1.cell? ⟨w.heap.size, 1, none⟩ = some (.string tag) := HBL1.out.cell 1
            have k2w1 : w1.cell? ⟨w.heap.size, 2, none⟩ = some (.string par) := HBL1.out.cell 2
            have k3w1 : w1.cell? ⟨w.heap.size, 3, none⟩ = some (.int .i64 sz) := HBL1.out.cell 3
            have k4w1 : w1.cell? ⟨w.heap.size, 4, none⟩ = some (.slice A l.length c) := HBL1.out.cell 4
            go_wp2_with fail
            refine (HD.out _).mono ?_
            rintro e w2 ⟨rfl, hb2⟩
            have HB2 := Lib.hid (HB1.out.trans (hb2.mono HB1.out.size))
            have HBL2 := Lib.hid (HBL1.out.below hb2 (by exact HBL1.out.lt))
            clear hb2
            have k0w2 : w2.cell? ⟨w.heap.size, 0, none⟩ = some (.int .i64 tm) := HBL2.out.cell 0
            have k1w2 : w2.cell? ⟨w.heap.size, 1, none⟩ = some (.string tag) := HBL2.out.cell 1
            have k2w2 : w2.cell? ⟨w.heap.size, 2, none⟩ = some (.string par) := HBL2.out.cell 2
            have k3w2 : w2.cell? ⟨w.heap.size, 3, none⟩ = some (.int .i64 sz) := HBL2.out.cell 3
            have k4w2 : w2.cell? ⟨w.heap.size, 4, none⟩ = some (.slice A l.length c) := HBL2.out.cell 4
            go_wp2
            go_ret
            exact ⟨ret_int (by rw [HX.out]; rfl), HB2.out⟩
          | true =>
            rw [hd, Bool.true_and] at HG
            rw [hd] at HD
            clear hd
            by_cases hz : 1 ≤ sz ∧ sz ≤ 4194304 ∧ 1 ≤ l.length ∧ (l.length : Int) ≤ sz
            · rw [decide_eq_true hz, Bool.true_and] at HG
              obtain ⟨z1, z2, z3, z4⟩ := hz
              have z1' : ¬ sz < 1 := by omega
              have z2' : ¬ 4194304 < sz := by omega
              have z3' : ¬ (l.length : Int) < 1 := by omega
              have z4' : ¬ sz < (l.length : Int) := by omega
              go_enter Tryz.func39, Tryz.ntmps39
              go_wp2_with fail
              refine (HN.out _ (HE.out _ HB0.out)).mono ?_
              rintro e w1 ⟨rfl, hb1⟩
              have HB1 := Lib.hid (HB0.out.trans (hb1.mono HB0.out.size))
              have HBL1 := Lib.hid (HBL.out.below hb1 (by simp))
              clear hb1
              have k0w1 : w1.cell? ⟨w.heap.size, 0, none⟩ = some (.int .i64 tm) := HBL1.out.cell 0
              have k1w1 : w1.cell? ⟨w.heap.size, 1, none⟩ = some (.string tag) := HBL1.out.cell 1
              have k2w1 : w1.cell? ⟨w.heap.size, 2, none⟩ = some (.string par) := HBL1.out.cell 2
              have k3w1 : w1.cell? ⟨w.heap.size, 3, none⟩ = some (.int .i64 sz) := HBL1.out.cell 3
              have k4w1 : w1.cell? ⟨w.heap.size, 4, none⟩ = some (.slice A l.length c) := HBL1.out.cell 4
              go_wp2_with fail
              refine (HD.out _).mono ?_
              rintro e w2 ⟨rfl, hb2⟩
              have HB2 := Lib.hid (HB1.out.trans (hb2.mono HB1.out.size))
              have HBL2 := Lib.hid (HBL1.out.below hb2 (by exact HBL1.out.lt))
              clear hb2
              have k0w2 : w2.cell? ⟨w.heap.size, 0, none⟩ = some (.int .i64 tm) := HBL2.out.cell 0
              have k1w2 : w2.cell? ⟨w.heap.size, 1, none⟩ = some (.string tag) := HBL2.out.cell 1
              have k2w2 : w2.cell? ⟨w.heap.size, 2, none⟩ = some (.string par) := HBL2.out.cell 2
              have k3w2 : w2.cell? ⟨w.heap.size, 3, none⟩ = some (.int .i64 sz) := HBL2.out.cell 3
              have k4w2 : w2.cell? ⟨w.heap.size, 4, none⟩ = some (.slice A l.length c) := HBL2.out.cell 4
              obtain ⟨bk, off, rfl, hbk, hcell⟩ := HST.out (by omega)
              have HC := Lib.hid fun (j : Nat) (u : ByteArray) (hj : l[j]? = some u) => (show w2.cell? ⟨bk, off + j, none⟩ = some (.string u) from (HB2.out.cell (p := ⟨bk, off + j, none⟩) hbk).trans (hcell j u hj))
              clear hcell
              go_wp2
              go_loop [60] (fun t => ∃ k : Nat, t = .int .i64 (k : Nat) ∧ k ≤ l.length ∧ (l.drop k).all (fun c => decide (c.size = 32)) = l.all (fun c => decide (c.size = 32))) (fun t => l.length - (intOf t).toNat)
              case atStart => exact ⟨0, rfl, Nat.zero_le _, rfl⟩
              case round =>
                obtain ⟨k, rfl, hk, hn⟩ := hrel
                have HNN := Lib.hid hn
                clear hn
                by_cases hkl : k < l.length
                · have hcx := HC.out k l[k] (List.getElem?_eq_getElem hkl)
                  have HDX := Lib.hid (List.drop_eq_getElem_cons hkl)
                  generalize l[k] = x at *
                  by_cases h32 : x.size = 32
                  · have HX := Lib.hid (show (x :: l.drop (k + 1)).all (fun c => decide (c.size = 32)) = (l.drop (k + 1)).all (fun c => decide (c.size = 32)) by rw [List.all_cons, decide_eq_true h32, Bool.true_and])
                    have hq : ((x.size : Int) != 32) = false := by simp; omega
                    clear h32
                    go_wp2
                    go_round
                    case rel => exact ⟨k + 1, by go_num, by omega, by rw [← HX.out, ← HDX.out]; exact HNN.out⟩
                    case measure => simp [intOf]; omega
                  · have HX := Lib.hid (show gd = false by rw [HG.out, ← HNN.out, HDX.out, List.all_cons, decide_eq_false h32]; rfl)
                    have hq : ((x.size : Int) != 32) = true := by simp; omega
                    clear h32
                    go_wp2
                    go_ret
                    exact ⟨ret_int (by rw [HX.out]; rfl), HB2.out⟩
                · have HX := Lib.hid (show gd = true by rw [HG.out, ← HNN.out, List.drop_of_length_le (by omega)]; rfl)
                  go_wp2
                  go_ret
                  exact ⟨ret_int (by rw [HX.out]; rfl), HB2.out⟩
            · have HX := Lib.hid (show gd = false by rw [HG.out, decide_eq_false hz]; simp)
              rcases (by omega : sz < 1 ∨ (¬ sz < 1 ∧ 4194304 < sz) ∨ (¬ sz < 1 ∧ ¬ 4194304 < sz ∧ (l.length : Int) < 1) ∨ (¬ sz < 1 ∧ ¬ 4194304 < sz ∧ ¬ (l.length : Int) < 1 ∧ sz < (l.length : Int))) with g | ⟨g1, g⟩ | ⟨g1, g2, g⟩ | ⟨g1, g2, g3, g⟩
              all_goals
                clear hz
                go_enter Tryz.func39, Tryz.ntmps39
                go_wp2_with fail
                refine (HN.out _ (HE.out _ HB0.out)).mono ?_
                rintro e w1 ⟨rfl, hb1⟩
                have HB1 := Lib.hid (HB0.out.trans (hb1.mono HB0.out.size))
                have HBL1 := Lib.hid (HBL.out.below hb1 (by simp))
                clear hb1
                have k0w1 : w1.cell? ⟨w.heap.size, 0, none⟩ = some (.int .i64 tm) := HBL1.out.cell 0
                have k1w1 : w1.cell? ⟨w.heap.size, 1, none⟩ = some (.string tag) := HBL1.out.cell 1
                have k2w1 : w1.cell? ⟨w.heap.size, 2, none⟩ = some (.string par) := HBL1.out.cell 2
                have k3w1 : w1.cell? ⟨w.heap.size, 3, none⟩ = some (.int .i64 sz) := HBL1.out.cell 3
                have k4w1 : w1.cell? ⟨w.heap.size, 4, none⟩ = some (.slice A l.length c) := HBL1.out.cell 4
                go_wp2_with fail
                refine (HD.out _).mono ?_
                rintro e w2 ⟨rfl, hb2⟩
                have HB2 := Lib.hid (HB1.out.trans (hb2.mono HB1.out.size))
                have HBL2 := Lib.hid (HBL1.out.below hb2 (by exact HBL1.out.lt))
                clear hb2
                have k0w2 : w2.cell? ⟨w.heap.size, 0, none⟩ = some (.int .i64 tm) := HBL2.out.cell 0
                have k1w2 : w2.cell? ⟨w.heap.size, 1, none⟩ = some (.string tag) := HBL2.out.cell 1
                have k2w2 : w2.cell? ⟨w.heap.size, 2, none⟩ = some (.string par) := HBL2.out.cell 2
                have k3w2 : w2.cell? ⟨w.heap.size, 3, none⟩ = some (.int .i64 sz) := HBL2.out.cell 3
                have k4w2 : w2.cell? ⟨w.heap.size, 4, none⟩ = some (.slice A l.length c) := HBL2.out.cell 4
                go_wp2
                go_ret
                exact ⟨ret_int (by rw [HX.out]; rfl), HB2.out⟩
  · have HX := Lib.hid (show gd = false by rw [HG.out, decide_eq_false h1]; simp)
    rcases (by omega : tm < 0 ∨ (¬ tm < 0 ∧ 253402300799 < tm)) with g | ⟨g1, g⟩
    all_goals
      clear h1
      go_enter Tryz.func39, Tryz.ntmps39
      go_wp2
      go_ret
      exact ⟨ret_int (by rw [HX.out]; rfl), HB0.out⟩
end Go.Proofs.YtpeepdkeicgkiaaGreatDoor
namespace Go.Proofs.YtpeepdkeicgkiaaGreatDoor
set_option linter.unusedVariables false
set_option linter.unusedSimpArgs false
set_option linter.unusedSectionVars false
open Go.RowKit

theorem var_size (x : Nat) : (⟨(varL x).toArray⟩ : ByteArray).size ≤ 11 := by
  have := (varF_len 10 x).2
  show (varL x).toArray.size ≤ 11
  simpa [varL] using this
set_option maxRecDepth 100000 in
set_option maxHeartbeats 400000 in
theorem mtext_any (s : ByteArray) (w : World) (hs : s.size ≤ 140737488355328) : Calls Tryz.prog 41 #[.string s] w fun e w' => e = .returned (.string (bs (textL s))) ∧ Below w.heap.size w w' := by
  have H1 := Lib.hid fun W => var_any s.size W (by omega)
  have hv := var_size s.size
  have HE := Lib.hid (show (⟨(varL s.size).toArray⟩ : ByteArray) ++ s = bs (textL s) by
    apply ba_inj
    rw [bs_list]
    unfold textL
    simp [ByteArray.data_append])
  have hu : IntKind.u64.wrap (s.size : Int) = (s.size : Int) := IntWalk.u64_in _ (by omega)
  generalize (⟨(varL s.size).toArray⟩ : ByteArray) = v at *
  have hz : v.size + s.size ≤ 281474976710656 := by omega
  go_enter Tryz.func41, Tryz.ntmps41
  go_wp2_with fail
  refine (H1.out _).mono ?_
  rintro e w1 ⟨rfl, hb⟩
  go_wp2
  go_ret
  exact ⟨ret_str HE.out, hb⟩
theorem ret_si {k : IntKind} {a b : ByteArray} {c d : Int} (h1 : a = b) (h2 : c = d) : Ending.returned (.tuple #[.string a, .int k c]) = .returned (.tuple #[.string b, .int k d]) := by rw [h1, h2]
/-- what Encode gives -/
def encR (m : Man) : ByteArray × Int := if goodM m = true then (bs (manL m), 0) else (⟨#[]⟩, 4)
theorem join_cat (l : List ByteArray) : Lib.join (l.map (·.data.toList)) (⟨#[]⟩ : ByteArray).data.toList = catL l := by
  unfold Lib.join catL
  have e : (⟨#[]⟩ : ByteArray).data.toList = [] := rfl
  rw [e]
  generalize l.map (·.data.toList) = x
  unfold List.intercalate
  induction x with
  | nil => rfl
  | cons a r ih =>
    cases r with
    | nil => simp
    | cons b r => simp only [List.intersperse_cons_cons, List.flatten_cons, List.nil_append] at ih ⊢; rw [ih]
theorem cat_len (l : List ByteArray) (h : ∀ c ∈ l, c.size = 32) : (catL l).length = 32 * l.length := by
  induction l with
  | nil => rfl
  | cons c l ih =>
    have e : catL (c :: l) = c.data.toList ++ catL l := by simp [catL]
    rw [e, List.length_append, ba_len, h c (by simp), ih (fun x hx => h x (by simp [hx])), List.length_cons]
    omega
/-- five cells held beside a call that makes memory -/
theorem keep5 {w W W' : World} {g : Nat} {a0 a1 a2 a3 a4 : Value} (h : W.cell? ⟨g, 0, none⟩ = some a0 ∧ W.cell? ⟨g, 1, none⟩ = some a1 ∧ W.cell? ⟨g, 2, none⟩ = some a2 ∧ W.cell? ⟨g, 3, none⟩ = some a3 ∧ W.cell? ⟨g, 4, none⟩ = some a4 ∧ Below w.heap.size w W) (hb : Below W.heap.size W W') :
    W'.cell? ⟨g, 0, none⟩ = some a0 ∧ W'.cell? ⟨g, 1, none⟩ = some a1 ∧ W'.cell? ⟨g, 2, none⟩ = some a2 ∧ W'.cell? ⟨g, 3, none⟩ = some a3 ∧ W'.cell? ⟨g, 4, none⟩ = some a4 ∧ Below w.heap.size w W' := by
  obtain ⟨h0, h1, h2, h3, h4, h5⟩ := h
  have hlt := cellLt h0
  exact ⟨(hb.cell (p := ⟨g, 0, none⟩) hlt).trans h0, (hb.cell (p := ⟨g, 1, none⟩) hlt).trans h1, (hb.cell (p := ⟨g, 2, none⟩) hlt).trans h2, (hb.cell (p := ⟨g, 3, none⟩) hlt).trans h3, (hb.cell (p := ⟨g, 4, none⟩) hlt).trans h4, h5.trans (hb.mono h5.size)⟩
theorem keepB {w W : World} {g : Nat} {a0 a1 a2 a3 a4 : Value} (h : W.cell? ⟨g, 0, none⟩ = some a0 ∧ W.cell? ⟨g, 1, none⟩ = some a1 ∧ W.cell? ⟨g, 2, none⟩ = some a2 ∧ W.cell? ⟨g, 3, none⟩ = some a3 ∧ W.cell? ⟨g, 4, none⟩ = some a4 ∧ Below w.heap.size w W) : Below w.heap.size w W := h.2.2.2.2.2
set_option maxRecDepth 100000 in
set_option maxHeartbeats 1600000 in
theorem mencode_any (m : Man) (A : Option Addr) (c : Nat) (w : World) (he : Env w) (hst : StrsA w w.heap.size A m.chunks) (hb : ManB m) (hc : m.chunks.length ≤ c) :
    Calls Tryz.prog 14 #[manV m A c] w fun e w' => e = .returned (.tuple #[.string (encR m).1, .int .i64 (encR m).2]) ∧ Below w.heap.size w w' := by
  have hb0 : Below w.heap.size w (w.alloc (.cells #[.int .i64 m.time, .string m.tag, .string m.parent, .int .i64 m.size, .slice A m.chunks.length c] 32)) := (Below.refl w.heap.size w).alloc (Nat.le_refl _) _
  have hst0 : StrsA (w.alloc (.cells #[.int .i64 m.time, .string m.tag, .string m.parent, .int .i64 m.size, .slice A m.chunks.length c] 32)) (w.alloc (.cells #[.int .i64 m.time, .string m.tag, .string m.parent, .int .i64 m.size, .slice A m.chunks.length c] 32)).heap.size A m.chunks := fun h => by
    obtain ⟨bk, o, h1, h2, h3⟩ := hst h
    exact ⟨bk, o, h1, by simp; omega, fun j u hj => (hb0.cell (p := ⟨bk, o + j, none⟩) h2).trans (h3 j u hj)⟩
  have HCK := Lib.hid (mcheck_any m A c _ (he.below hb0) hst0 hb)
  have HBL := Lib.hid (Blk.new w 32 #[.int .i64 m.time, .string m.tag, .string m.parent, .int .i64 m.size, .slice A m.chunks.length c])
  have HB0 := Lib.hid hb0
  unfold manV at HCK
  clear hst0 hb0
  cases hg : goodM m with
  | false =>
    have HX := Lib.hid (show encR m = (⟨#[]⟩, 4) by unfold encR; rw [hg]; rfl)
    rw [hg] at HCK
    unfold manV
    clear hg
    go_enter Tryz.func14, Tryz.ntmps14
    go_wp2_with fail
    refine HCK.out.mono ?_
    rintro e w1 ⟨rfl, hb1⟩
    have hq : (errI false != 0) = true := rfl
    go_wp2
    go_ret2
    exact ⟨by rw [HX.out]; rfl, HB0.out.trans (hb1.mono HB0.out.size)⟩
  | true =>
    have HX := Lib.hid (show encR m = (bs (manL m), 0) by unfold encR; rw [hg]; rfl)
    rw [hg] at HCK
    obtain ⟨⟨t1, t2⟩, g1, p1, ⟨z1, z2, c1, c2⟩, h32⟩ := good_parts hg
    obtain ⟨bk, off, rfl, hbk, hcell⟩ := hst (by omega)
    have HHC := Lib.hid hcell
    have HTXT := Lib.hid (show manL m = [115, 110, 97, 112] ++ varL m.time.toNat ++ textL m.tag ++ textL m.parent ++ varL m.size.toNat ++ varL m.chunks.length ++ catL m.chunks from rfl)
    have hjl := cat_len m.chunks h32
    have hj1 := Tryz.strings_Join bk off c m.chunks ⟨#[]⟩
    rw [join_cat] at hj1
    clear hcell h32 hst hb
    generalize manL m = mL at *
    obtain ⟨tm, tag, par, sz, l⟩ := m
    unfold manV
    simp only at *
    clear hg
    obtain ⟨tn, rfl⟩ : ∃ n : Nat, tm = (n : Int) := ⟨tm.toNat, by omega⟩
    obtain ⟨sn, rfl⟩ : ∃ n : Nat, sz = (n : Int) := ⟨sz.toNat, by omega⟩
    have hvar : ∀ n : Nat, n ≤ 253402300799 → ∃ v : ByteArray, v.data.toList = varL n ∧ v.size ≤ 11 ∧ ∀ W, Calls Tryz.prog 40 #[.int .u64 n] W fun e w' => e = .returned (.string v) ∧ Below W.heap.size W w' := fun n hn => ⟨⟨(varL n).toArray⟩, by simp, var_size n, fun W => var_any n W (by omega)⟩
    have htxt : ∀ s : ByteArray, s.size ≤ 100 → ∃ v : ByteArray, v.data.toList = textL s ∧ v.size ≤ 111 ∧ ∀ W, Calls Tryz.prog 41 #[.string s] W fun e w' => e = .returned (.string v) ∧ Below W.heap.size W w' := fun s hs => ⟨bs (textL s), bs_list _, by
      have h1 := (varF_len 10 s.size).2
      have h2 : (varL s.size).length ≤ 11 := h1
      rw [bs_size]; unfold textL; rw [List.length_append, ba_len]; omega, fun W => mtext_any s W (by omega)⟩
    obtain ⟨v1, e1, s1, H1⟩ := hvar tn (by omega)
    obtain ⟨v2, e2, s2, H2⟩ := hvar sn (by omega)
    obtain ⟨v3, e3, s3, H3⟩ := hvar l.length (by omega)
    obtain ⟨x1, f1, r1, K1⟩ := htxt tag (by omega)
    obtain ⟨x2, f2, r2, K2⟩ := htxt par (by omega)
    clear hvar htxt
    have HV1 := Lib.hid H1
    have HV2 := Lib.hid H2
    have HV3 := Lib.hid H3
    have HX1 := Lib.hid K1
    have HX2 := Lib.hid K2
    clear H1 H2 H3 K1 K2
    obtain ⟨jj, hjj⟩ : ∃ v : ByteArray, v = ⟨(catL l).toArray⟩ := ⟨_, rfl⟩
    have hjz : jj.size = 32 * l.length := by rw [hjj, ← hjl]; exact List.size_toArray
    have HJ := Lib.hid fun W h1 h2 => hj1 W h1 h2 (by omega) (by omega) (by omega)
    rw [← hjj] at HJ
    have HE := Lib.hid (show (⟨#[115, 110, 97, 112]⟩ : ByteArray) ++ v1 ++ x1 ++ x2 ++ v2 ++ v3 ++ jj = bs mL by
      apply ba_inj
      rw [bs_list, HTXT.out]
      simp only [ByteArray.data_append, Array.toList_append, e1, e2, e3, f1, f2, hjj, Int.toNat_natCast])
    have p0 : (⟨#[115, 110, 97, 112]⟩ : ByteArray).size = 4 := rfl
    have y1 := fun W => run_string_add_sum (P := Tryz.prog) W (⟨#[115, 110, 97, 112]⟩ : ByteArray) v1 (by first | omega | (simp only [ByteArray.size_append]; omega))
    have y2 := fun W => run_string_add_sum (P := Tryz.prog) W ((⟨#[115, 110, 97, 112]⟩ : ByteArray) ++ v1) x1 (by first | omega | (simp only [ByteArray.size_append]; omega))
    have y3 := fun W => run_string_add_sum (P := Tryz.prog) W ((⟨#[115, 110, 97, 112]⟩ : ByteArray) ++ v1 ++ x1) x2 (by first | omega | (simp only [ByteArray.size_append]; omega))
    have y4 := fun W => run_string_add_sum (P := Tryz.prog) W ((⟨#[115, 110, 97, 112]⟩ : ByteArray) ++ v1 ++ x1 ++ x2) v2 (by first | omega | (simp only [ByteArray.size_append]; omega))
    have y5 := fun W => run_string_add_sum (P := Tryz.prog) W ((⟨#[115, 110, 97, 112]⟩ : ByteArray) ++ v1 ++ x1 ++ x2 ++ v2) v3 (by first | omega | (simp only [ByteArray.size_append]; omega))
    have y6 := fun W => run_string_add_sum (P := Tryz.prog) W ((⟨#[115, 110, 97, 112]⟩ : ByteArray) ++ v1 ++ x1 ++ x2 ++ v2 ++ v3) jj (by first | omega | (simp only [ByteArray.size_append]; omega))
    have u1 : IntKind.u64.wrap (tn : Int) = (tn : Int) := IntWalk.u64_in _ (by omega)
    have u2 : IntKind.u64.wrap (sn : Int) = (sn : Int) := IntWalk.u64_in _ (by omega)
    have u3 : IntKind.u64.wrap (l.length : Int) = (l.length : Int) := IntWalk.u64_in _ (by omega)
    clear hj1 hjj hjl hjz e1 e2 e3 f1 f2 p0 s1 s2 s3 r1 r2
    go_enter Tryz.func14, Tryz.ntmps14
    go_wp2_with fail
    refine HCK.out.mono ?_
    rintro e w1 ⟨rfl, hb1⟩
    have hq : (errI true != 0) = false := rfl
    have HB1 := Lib.hid (HB0.out.trans (hb1.mono HB0.out.size))
    have HBL1 := Lib.hid (HBL.out.below hb1 (by simp))
    clear hb1 HCK
    have hS : w1.cell? ⟨w.heap.size, 0, none⟩ = some (.int .i64 tn) ∧ w1.cell? ⟨w.heap.size, 1, none⟩ = some (.string tag) ∧ w1.cell? ⟨w.heap.size, 2, none⟩ = some (.string par) ∧ w1.cell? ⟨w.heap.size, 3, none⟩ = some (.int .i64 sn) ∧ w1.cell? ⟨w.heap.size, 4, none⟩ = some (.slice (some ⟨bk, off, none⟩) l.length c) ∧ Below w.heap.size w w1 := ⟨HBL1.out.cell 0, HBL1.out.cell 1, HBL1.out.cell 2, HBL1.out.cell 3, HBL1.out.cell 4, HB1.out⟩
    have HS := Lib.hid hS
    clear hS
    go_upto_region 4 with fail
    go_region_held3 (fun W => W.cell? ⟨w.heap.size, 0, none⟩ = some (.int .i64 tn) ∧ W.cell? ⟨w.heap.size, 1, none⟩ = some (.string tag) ∧ W.cell? ⟨w.heap.size, 2, none⟩ = some (.string par) ∧ W.cell? ⟨w.heap.size, 3, none⟩ = some (.int .i64 sn) ∧ W.cell? ⟨w.heap.size, 4, none⟩ = some (.slice (some ⟨bk, off, none⟩) l.length c) ∧ Below w.heap.size w W)
      (first | exact hk3 | exact keep5 HS.out (Below.refl _ _).drew | exact HS.out)
      (first
        | (go_at_call 40; ((with_reducible refine (HV1.out _).mono ?_); rintro e w3 ⟨rfl, hb3⟩; have hk3 := keep5 (by assumption) hb3))
        | (go_at_call 40; ((with_reducible refine (HV2.out _).mono ?_); rintro e w3 ⟨rfl, hb3⟩; have hk3 := keep5 (by assumption) hb3))
        | (go_at_call 40; ((with_reducible refine (HV3.out _).mono ?_); rintro e w3 ⟨rfl, hb3⟩; have hk3 := keep5 (by assumption) hb3))
        | (go_at_call 41; ((with_reducible refine (HX1.out _).mono ?_); rintro e w3 ⟨rfl, hb3⟩; have hk3 := keep5 (by assumption) hb3))
        | (go_at_call 41; ((with_reducible refine (HX2.out _).mono ?_); rintro e w3 ⟨rfl, hb3⟩; have hk3 := keep5 (by assumption) hb3))
        | (go_at_call 42; ((with_reducible refine (HJ.out _ ?_ ?_).mono ?_); (intro j u hj; exact ((keepB (w := w) (g := w.heap.size) (by assumption)).cell (p := ⟨bk, off + j, none⟩) hbk).trans (HHC.out j u hj)); (exact Nat.lt_of_lt_of_le hbk (keepB (w := w) (g := w.heap.size) (by assumption)).size); rintro e w3 ⟨rfl, hb3⟩; have hk3 := keep5 (by assumption) hb3)))
    go_wp2
    go_ret2
    exact ⟨ret_si (by rw [HX.out]; exact HE.out) (by rw [HX.out]), keepB hk3⟩
end Go.Proofs.YtpeepdkeicgkiaaGreatDoor
