/- The document's Name, Count, Cut; the program's Count, Cut. Parent and Base: the program's, and the document's; the document's Is. A tree's nodes: their form, what is read, what is written: the plain law. -/
import Derived.Test.YtaoejgnfoecpfaaDoorJk3
import Derived.Test.YtaoejgnfoecpfaaDoorJk4
import Derived.Test.YtaoejgnfoecpfaaDoorJk5
import Derived.Lib.LastIndexByte
import Derived.Test.YtaoejgnfoecpfaaDoorJk1
namespace Go.Proofs.YtaoejgnfoecpfaaDoor
set_option linter.unusedVariables false
set_option linter.unusedSimpArgs false
set_option linter.unusedSectionVars false
open Go.RowKit

def strOf : Value → ByteArray
  | .string s => s
  | _ => ⟨#[]⟩
theorem ext_size (s : ByteArray) (p : Nat) : (s.extract p s.size).size = s.size - p := by rw [ByteArray.size_extract]; omega
theorem ext_ext (s : ByteArray) (p n : Nat) : (s.extract p s.size).extract n (s.extract p s.size).size = s.extract (p + n) s.size := by
  rw [ext_size]
  apply ByteArray.ext
  simp only [ByteArray.data_extract, Array.extract_extract]
  congr 1
  omega
theorem runeI_ext (s : ByteArray) (p : Nat) (h : p < s.size) : runeI (s.extract p s.size) = if brokenB s p = true then (-1, 1) else (((Utf8.decode s p).1 : Int), (Utf8.decode s p).2) := by
  unfold runeI brokenB
  rw [decode_ext s p h]
  simp
theorem broken_w {s : ByteArray} {p : Nat} (h : brokenB s p = true) : Utf8.decode s p = (65533, 1) := by simpa [brokenB] using h
theorem ext_nil (s : ByteArray) (p : Nat) (h : ¬ p < s.size) : (s.extract p s.size).toList.isEmpty = true := by
  rw [toList_isEmpty, ext_size]; exact decide_eq_true (by omega)
theorem ext_some (s : ByteArray) (p : Nat) (h : p < s.size) : (s.extract p s.size).toList.isEmpty = false := by
  rw [toList_isEmpty, ext_size]; exact decide_eq_false (by omega)
theorem ext_zero (s : ByteArray) : s.extract 0 s.size = s := by
  apply ByteArray.ext
  simp

set_option maxRecDepth 100000 in
set_option maxHeartbeats 3200000 in
theorem refname_any (s : ByteArray) (w : World) (hs : s.size ≤ 1099511627776) :
    Calls Tryd.prog 126 #[.string s] w fun e w' => e = .returned (.bool (nameOk s)) ∧ w = w' := by
  rcases dot_cases s with h | h | h | ⟨h0, h1, h2⟩
  · have := size0 h
    subst this
    have HN := Lib.hid (show nameOk ⟨#[]⟩ = false by decide +kernel)
    go_enter Tryd.func126, Tryd.ntmps126
    go_wp2
    go_ret
    exact ⟨ret_bool HN.out.symm, rfl⟩
  · subst h
    have HN := Lib.hid (show nameOk ⟨#[46]⟩ = false by decide +kernel)
    go_enter Tryd.func126, Tryd.ntmps126
    go_wp2
    go_ret
    exact ⟨ret_bool HN.out.symm, rfl⟩
  · subst h
    have HN := Lib.hid (show nameOk ⟨#[46, 46]⟩ = false by decide +kernel)
    go_enter Tryd.func126, Tryd.ntmps126
    go_wp2
    go_ret
    exact ⟨ret_bool HN.out.symm, rfl⟩
  · have hq1 := list_ne (l := [46]) h1
    have hq2 := list_ne (l := [46, 46]) h2
    have e1 : nameOk s = (decide (s.size ≤ 60) && nameFrom s s.size 0) := by
      unfold nameOk
      rw [decide_eq_true h0, decide_eq_true h1, decide_eq_true h2]; simp
    clear h1 h2
    by_cases hz : s.size ≤ 60
    · rw [decide_eq_true hz, Bool.true_and] at e1
      have E1 := Lib.hid e1
      have HZ0 := Lib.hid (ext_zero s)
      clear e1
      go_enter Tryd.func126, Tryd.ntmps126
      go_wp2
      go_loop [0] (fun t => ∃ (p f : Nat), t = .string (s.extract p s.size) ∧ p ≤ s.size ∧ nameFrom s f p = nameFrom s s.size 0 ∧ s.size ≤ p + f) (fun t => (strOf t).size)
      case atStart => exact ⟨0, s.size, by rw [HZ0.out], Nat.zero_le _, rfl, by omega⟩
      case round =>
        obtain ⟨p, f, rfl, hps, hn, hf⟩ := hrel
        have HN := Lib.hid hn
        clear hn hq1 hq2
        by_cases hp : p < s.size
        · have hem := ext_some s p hp
          have hfit := decode_fits s p hp
          have hR := rune_any (s.extract p s.size) w (by rw [ext_size]; omega) (by rw [ext_size]; omega)
          rw [runeI_ext s p hp] at hR
          have HR := Lib.hid hR
          have hstep := nameFrom_step s f p hp hf
          have HBAD := Lib.hid (nameFrom_bad s f p hp hf)
          have HBN := Lib.hid (show badN s p = (decide ((Utf8.decode s p).1 < 32) || decide ((Utf8.decode s p).1 = 47) || decide ((Utf8.decode s p).1 = 127) || brokenB s p) from rfl)
          have HSTEP := Lib.hid hstep
          have HEX := Lib.hid (ext_ext s p (Utf8.decode s p).2)
          have hsz := ext_size s p
          have hsz1 : (s.extract p s.size).size + p = s.size := by omega
          clear hR hstep hsz
          obtain ⟨f1, f2, f3, f4⟩ := hfit
          cases hbr : brokenB s p with
          | true =>
            have HF := Lib.hid (HBAD.out (by rw [HBN.out, hbr]; simp))
            rw [hbr, if_pos rfl] at HR
            clear hbr
            go_wp2_with fail
            refine HR.out.mono ?_
            rintro e w4 ⟨rfl, rfl⟩
            go_wp2
            go_ret
            exact ⟨ret_bool (by rw [E1.out, ← HN.out, HF.out]), rfl⟩
          | false =>
            rw [hbr, if_neg (by simp)] at HR
            have HBR := Lib.hid hbr
            clear hbr
            generalize (Utf8.decode s p).1 = c at *
            generalize (Utf8.decode s p).2 = n at *
            generalize hu : s.extract p s.size = u at *
            clear hu
            have hn0 : (0 : Int) ≤ (n : Int) := by omega
            have hn1 : (n : Int) ≤ (u.size : Int) := by omega
            rcases (by omega : (c : Int) < 32 ∨ ((32 : Int) ≤ (c : Int) ∧ c = 47) ∨ ((32 : Int) ≤ (c : Int) ∧ c ≠ 47 ∧ c = 127) ∨ ((32 : Int) ≤ (c : Int) ∧ c ≠ 47 ∧ c ≠ 127)) with g | ⟨g1, g2⟩ | ⟨g1, g2, g3⟩ | ⟨g1, g2, g3⟩
            · have HF := Lib.hid (HBAD.out (by rw [HBN.out, decide_eq_true (show c < 32 by omega)]; rfl))
              go_wp2_with fail
              refine HR.out.mono ?_
              rintro e w4 ⟨rfl, rfl⟩
              go_wp2
              go_ret
              exact ⟨ret_bool (by rw [E1.out, ← HN.out, HF.out]), rfl⟩
            · have HF := Lib.hid (HBAD.out (by rw [HBN.out, decide_eq_true g2]; simp))
              subst g2
              go_wp2_with fail
              refine HR.out.mono ?_
              rintro e w4 ⟨rfl, rfl⟩
              go_wp2
              go_ret
              exact ⟨ret_bool (by rw [E1.out, ← HN.out, HF.out]), rfl⟩
            · have HF := Lib.hid (HBAD.out (by rw [HBN.out, decide_eq_true g3]; simp))
              subst g3
              go_wp2_with fail
              refine HR.out.mono ?_
              rintro e w4 ⟨rfl, rfl⟩
              go_wp2
              go_ret
              exact ⟨ret_bool (by rw [E1.out, ← HN.out, HF.out]), rfl⟩
            · have q1 : ((c : Int) == 47) = false := by simp; omega
              have q2 : ((c : Int) == 127) = false := by simp; omega
              obtain ⟨g, e2, e3⟩ := HSTEP.out (by rw [HBN.out, decide_eq_false (show ¬ c < 32 by omega), decide_eq_false g2, decide_eq_false g3, HBR.out]; rfl)
              have HG := Lib.hid e2
              clear g2 g3 e2
              go_wp2_with fail
              refine HR.out.mono ?_
              rintro e w4 ⟨rfl, rfl⟩
              go_wp2
              go_round
              case rel => exact ⟨p + n, g, by rw [← HEX.out], by omega, HG.out.symm.trans HN.out, e3⟩
              case measure =>
                have := ext_size s (p + n)
                rw [← HEX.out] at this
                simp only [strOf]
                omega
        · have hem := ext_nil s p hp
          have HF := Lib.hid (nameFrom_end s f p hp)
          go_wp2
          go_ret
          exact ⟨ret_bool (by rw [E1.out, ← HN.out, HF.out]), rfl⟩
    · rw [decide_eq_false hz, Bool.false_and] at e1
      have E1 := Lib.hid e1
      clear e1
      go_enter Tryd.func126, Tryd.ntmps126
      go_wp2
      go_ret
      exact ⟨ret_bool E1.out.symm, rfl⟩
end Go.Proofs.YtaoejgnfoecpfaaDoor
namespace Go.Proofs.YtaoejgnfoecpfaaDoor
set_option linter.unusedVariables false
set_option linter.unusedSimpArgs false
set_option linter.unusedSectionVars false
open Go.RowKit

def parentP (s : ByteArray) : ByteArray := s.extract 0 (Lib.lastIndexByte s 47).toNat
def baseP (s : ByteArray) : ByteArray := s.extract (Lib.lastIndexByte s 47 + 1).toNat s.size

theorem splitL_append (a b : List UInt8) : splitL (a ++ 47 :: b) = splitL a ++ splitL b := by
  induction a with
  | nil => rw [List.nil_append, splitL_slash]; rfl
  | cons c r ih =>
    by_cases h : c = 47
    · rw [h, List.cons_append, splitL_slash, splitL_slash, ih]; rfl
    · rw [List.cons_append, splitL_other h, splitL_other h, ih]
      have := splitL_ne r
      cases hs : splitL r with
      | nil => exact absurd hs this
      | cons x t => rfl
theorem splitL_none (b : List UInt8) (h : ∀ c ∈ b, c ≠ 47) : splitL b = [b] := by
  induction b with
  | nil => rfl
  | cons c r ih =>
    rw [splitL_other (h c (by simp)), ih (fun x hx => h x (by simp [hx]))]
    rfl
theorem ba_get (s : ByteArray) (i : Nat) (h : i < s.size) : s.data[i]! = s[i] := by
  have hd : i < s.data.size := h
  rw [getElem!_pos s.data i hd]; rfl
theorem last_cases (s : ByteArray) : (Lib.lastIndexByte s 47 = -1 ∧ partsR s = [s.data.toList] ∧ (∀ j (h : j < s.size), s[j] ≠ 47)) ∨
    (∃ i, ∃ h : i < s.size, Lib.lastIndexByte s 47 = i ∧ s[i] = 47 ∧ partsR s = splitL (s.extract 0 i).data.toList ++ [(s.extract (i + 1) s.size).data.toList] ∧ ∀ j (h : j < s.size), i < j → s[j] ≠ 47) := by
  rcases Lib.lastIndexByte_spec s 47 with ⟨h, hn⟩ | ⟨i, hi, he, hc, hn⟩
  · have hno : ∀ j (h : j < s.size), s[j] ≠ 47 := fun j hj e => hn j hj (by rw [ba_get s j hj, e]; rfl)
    refine .inl ⟨h, ?_, hno⟩
    refine splitL_none _ fun c hc e => ?_
    obtain ⟨j, hj, hj2⟩ := List.getElem_of_mem hc
    have hjs : j < s.size := by simpa using hj
    exact hno j hjs (by rw [← e, ← hj2]; rfl)
  · have hno : ∀ j (h : j < s.size), i < j → s[j] ≠ 47 := fun j hj hij e => hn j hij hj (by rw [ba_get s j hj, e]; rfl)
    have h47 : s[i] = 47 := by
      rw [ba_get s i hi] at hc
      apply UInt8.toNat_inj.1
      have : s[i].toNat = 47 := by omega
      rw [this]; rfl
    refine .inr ⟨i, hi, he, h47, ?_, hno⟩
    have e1 : (s.extract 0 i).data.toList = s.data.toList.take i := Lib.extract_from_zero s i
    have e2 : (s.extract (i + 1) s.size).data.toList = s.data.toList.drop (i + 1) := Lib.extract_to_end s (i + 1)
    have e3 : s.data.toList = s.data.toList.take i ++ 47 :: s.data.toList.drop (i + 1) := by
      have h2 : s.data.toList.drop i = s[i] :: s.data.toList.drop (i + 1) := List.drop_eq_getElem_cons (by simpa using hi)
      rw [← h47, ← h2, List.take_append_drop]
    unfold partsR
    rw [e3, splitL_append, e1, e2]
    congr 1
    refine (splitL_none _ fun c hc e => ?_)
    obtain ⟨j, hj, hj2⟩ := List.getElem_of_mem hc
    rw [List.getElem_drop] at hj2
    have hjs : i + 1 + j < s.size := by simp at hj; have : s.data.size = s.size := rfl; omega
    exact hno (i + 1 + j) hjs (by omega) (by rw [← e, ← hj2]; rfl)
theorem last_range (s : ByteArray) : -1 ≤ Lib.lastIndexByte s 47 ∧ Lib.lastIndexByte s 47 < s.size := by
  rcases last_cases s with ⟨h, _⟩ | ⟨i, h, e, _⟩ <;> omega
theorem partsP_base (s : ByteArray) : partsP s = (partsP s).take ((partsP s).length - 1) ++ [baseP s] := by
  rcases last_cases s with ⟨h, hp, _⟩ | ⟨i, h, e, _, hp, _⟩
  · unfold partsP baseP
    rw [hp, h]
    simp only [List.map_cons, List.map_nil, List.length_cons, List.length_nil]
    rw [strB_self, show ((-1 : Int) + 1).toNat = 0 from rfl, ext_zero]
    rfl
  · unfold partsP baseP
    rw [hp, e, List.map_append, List.map_cons, List.map_nil, strB_self]
    rw [show ((i : Int) + 1).toNat = i + 1 by omega]
    simp
theorem partsP_last (s : ByteArray) : (partsP s)[(partsP s).length - 1]? = some (baseP s) := by
  have h1 := partsP_ne s
  have h2 := partsP_base s
  generalize baseP s = b at *
  generalize partsP s = l at *
  rw [h2]
  have e : (l.take (l.length - 1) ++ [b]).length - 1 = (l.take (l.length - 1)).length := by simp
  rw [e, List.getElem?_append_right (Nat.le_refl _)]
  simp
theorem ext_00 (s : ByteArray) : s.extract 0 0 = ⟨#[]⟩ := by
  apply ByteArray.ext
  simp
theorem splitL_size : ∀ (l : List UInt8) (p : List UInt8), p ∈ splitL l → p.length ≤ l.length
  | [], p, h => by simp [splitL] at h; simp [h]
  | c :: r, p, h => by
    by_cases hc : c = 47
    · rw [hc, splitL_slash] at h
      rcases List.mem_cons.1 h with rfl | h
      · simp
      · have := splitL_size r p h; simp; omega
    · rw [splitL_other hc] at h
      have ih := splitL_size r
      cases hs : splitL r with
      | nil => exact absurd hs (splitL_ne r)
      | cons x t =>
        rw [hs] at h ih
        simp only [headApp, List.mem_cons] at h
        rcases h with rfl | h
        · have := ih x (by simp); simp; omega
        · have := ih p (by simp [h]); simp; omega
theorem part_size (s x : ByteArray) (h : x ∈ partsP s) : x.size ≤ s.size := by
  unfold partsP partsR at h
  obtain ⟨l, hl, rfl⟩ := List.mem_map.1 h
  have := splitL_size _ l hl
  show l.toArray.size ≤ s.data.size
  simpa using this

set_option maxRecDepth 100000 in
set_option maxHeartbeats 400000 in
theorem pparent_any (s : ByteArray) (w : World) (hs : s.size ≤ 1000000) : Calls Tryd.prog 20 #[.string s] w fun e w' => e = .returned (.string (parentP s)) ∧ w = w' := by
  have H1 := Lib.hid (Tryd.strings_LastIndexByte s 47 (by omega) w)
  have hr := last_range s
  have HP := Lib.hid (show parentP s = s.extract 0 (Lib.lastIndexByte s 47).toNat from rfl)
  generalize Lib.lastIndexByte s 47 = q at *
  have HQ := Lib.hid (show (max q 0).toNat = q.toNat by omega)
  go_enter Tryd.func20, Tryd.ntmps20
  go_wp2_with fail
  refine H1.out.mono ?_
  rintro e w1 ⟨rfl, rfl⟩
  go_wp2
  go_ret
  exact ⟨ret_str (by rw [HP.out, HQ.out]), rfl⟩
set_option maxRecDepth 100000 in
set_option maxHeartbeats 800000 in
theorem refparent_any (s : ByteArray) (w : World) (hs : s.size ≤ 1000000) : Calls Tryd.prog 86 #[.string s] w fun e w' => e = .returned (.string (parentP s)) ∧ w = w' := by
  go_enter Tryd.func86, Tryd.ntmps86
  go_wp2
  go_loop [3] (fun t => ∃ k : Nat, k ≤ s.size ∧ t = .int .i64 ((k : Int) - 1) ∧ Lib.lastIdx s 47 k = Lib.lastIndexByte s 47) (fun t => (intOf t + 1).toNat)
  case atStart => exact ⟨s.size, Nat.le_refl _, rfl, rfl⟩
  case round =>
    obtain ⟨k, hk, rfl, hn⟩ := hrel
    have HN := Lib.hid hn
    clear hn
    cases k with
    | zero =>
      have hz : ¬ (0 : Int) ≤ ((0 : Nat) : Int) - 1 := by omega
      go_wp2
      go_ret
      exact ⟨ret_str (by unfold parentP; rw [← HN.out, show (Lib.lastIdx s 47 0).toNat = 0 from rfl, ext_00]), rfl⟩
    | succ k =>
      have hkl : k < s.size := by omega
      have ek : ((k + 1 : Nat) : Int) - 1 = (k : Int) := by omega
      rw [ek]
      clear ek
      have hk0 : (0 : Int) ≤ (k : Int) := by omega
      by_cases h : s[k] = 47
      · have hq : (s[k].toNat : Int) = 47 := by rw [h]; rfl
        have HF := Lib.hid (Lib.lastIdx_hit s 47 k (by rw [ba_get s k hkl]; exact hq))
        go_wp2
        go_ret
        exact ⟨ret_str (by unfold parentP; rw [← HN.out, HF.out]; simp), rfl⟩
      · have hq : ¬ (s[k].toNat : Int) = 47 := by
          intro e
          apply h
          apply UInt8.toNat_inj.1
          have : s[k].toNat = 47 := by omega
          rw [this]; rfl
        have HF := Lib.hid (Lib.lastIdx_miss s 47 k (by rw [ba_get s k hkl]; exact hq))
        go_wp2
        go_round
        case rel => exact ⟨k, by omega, rfl, by rw [← HF.out]; exact HN.out⟩
        case measure => simp [intOf]

set_option maxRecDepth 100000 in
set_option maxHeartbeats 1600000 in
theorem refis_big (s : ByteArray) (w : World) (hs : s.size ≤ 1100000) : Calls Tryd.prog 113 #[.string s] w fun e w' => e = .returned (.bool (isPath s)) ∧ Below w.heap.size w w' := by
  have hla := partsP_len s
  have HIS := Lib.hid (isPath_parts s)
  have HNM := Lib.hid fun (x : ByteArray) W (h : x ∈ partsP s) => refname_any x W (by
    have := part_size s x h; omega)
  have H1 := Lib.hid (parts_big s w hs)
  go_enter Tryd.func113, Tryd.ntmps113
  go_wp2_with fail
  refine H1.out.mono ?_
  rintro e w1 ⟨ga, ca, rfl, ho1, hb1⟩
  obtain ⟨hr1, hn1⟩ := parts_row ho1
  have HX := Lib.hid hr1
  rw [hn1]
  generalize partsP s = xs at *
  clear hr1 hn1 ho1 H1
  by_cases hz : s.size ≤ 200
  · by_cases hk : xs.length ≤ 8
    · have HI := Lib.hid (show isPath s = xs.all nameOk by rw [HIS.out, decide_eq_true hz, decide_eq_true hk]; simp)
      have h1 : ¬ (200 : Int) < (s.size : Int) := by omega
      have h2 : ¬ (8 : Int) < (xs.length : Int) := by omega
      go_wp2
      go_loop [18] (fun t => ∃ k : Nat, t = .int .i64 (k : Nat) ∧ k ≤ xs.length ∧ (xs.drop k).all nameOk = xs.all nameOk) (fun t => xs.length - (intOf t).toNat)
      case atStart => exact ⟨0, rfl, Nat.zero_le _, rfl⟩
      case round =>
        obtain ⟨k, rfl, hkx, hn⟩ := hrel
        have HN := Lib.hid hn
        clear hn
        by_cases hkl : k < xs.length
        · have hcx := HX.out k xs[k] (List.getElem?_eq_getElem hkl)
          have HDX := Lib.hid (drop_some hkl)
          have HC := Lib.hid fun W => HNM.out xs[k] W (List.getElem_mem hkl)
          generalize xs[k] = x at *
          have HA := Lib.hid (show (x :: xs.drop (k + 1)).all nameOk = (nameOk x && (xs.drop (k + 1)).all nameOk) by simp)
          go_wp2_with fail
          refine (HC.out _).mono ?_
          rintro e w4 ⟨rfl, rfl⟩
          cases hok : nameOk x with
          | true =>
            have HO := Lib.hid hok
            clear hok
            go_wp2
            go_round
            case rel => exact ⟨k + 1, by go_num, by omega, by rw [← HN.out, HDX.out, HA.out, HO.out]; rfl⟩
            case measure => simp [intOf]; omega
          | false =>
            have HO := Lib.hid hok
            clear hok
            go_wp2
            go_ret
            exact ⟨ret_bool (by rw [HI.out, ← HN.out, HDX.out, HA.out, HO.out]; rfl), hb1⟩
        · have HF := Lib.hid (show xs.drop k = [] from List.drop_of_length_le (by omega))
          go_wp2
          go_ret
          exact ⟨ret_bool (by rw [HI.out, ← HN.out, HF.out]; rfl), hb1⟩
    · have HI := Lib.hid (show isPath s = false by rw [HIS.out, decide_eq_false hk]; simp)
      have h1 : ¬ (200 : Int) < (s.size : Int) := by omega
      have h2 : (8 : Int) < (xs.length : Int) := by omega
      go_wp2
      go_ret
      exact ⟨ret_bool HI.out.symm, hb1⟩
  · have HI := Lib.hid (show isPath s = false by rw [HIS.out, decide_eq_false hz]; simp)
    have h1 : (200 : Int) < (s.size : Int) := by omega
    go_wp2
    go_ret
    exact ⟨ret_bool HI.out.symm, hb1⟩
theorem refis_any (s : ByteArray) (w : World) (hs : s.size ≤ 1000000) : Calls Tryd.prog 113 #[.string s] w fun e w' => e = .returned (.bool (isPath s)) ∧ Below w.heap.size w w' :=
  refis_big s w (by omega)
end Go.Proofs.YtaoejgnfoecpfaaDoor
namespace Go.Proofs.YtaoejgnfoecpfaaDoor
set_option linter.unusedVariables false
set_option linter.unusedSimpArgs false
set_option linter.unusedSectionVars false
open Go.RowKit

/-- may a link lead there? -/
def tgt (s : ByteArray) : Bool := decide (1 ≤ s.size) && decide (s.size ≤ 200) && s.data.toList.all fun c => decide (c ≠ 0)
/-- a file's size and chunks -/
def fileOk (x : Nr) : Bool := decide (0 ≤ x.size) && decide (x.size ≤ 32768) && decide ((x.chunks.length : Int) ≤ x.size) && !(decide (0 < x.size) && decide (x.chunks.length = 0)) && x.chunks.all fun c => decide (c.size = 32)
def formOk (x : Nr) : Bool := decide (0 ≤ x.mode) && decide (x.mode ≤ 511) && decide (0 ≤ x.time) && decide (x.time ≤ 253402300799) && (!decide (x.kind = 3) || tgt x.target) && (!decide (x.kind = 2) || fileOk x)
def kindOk (x : Nr) : Bool := decide (1 ≤ x.kind) && decide (x.kind ≤ 3)
/-- a node's error by itself -/
def fitN (x : Nr) : Nat := if kindOk x = false then 12 else if isPath x.at_ = false then 11 else if formOk x = false then 4 else 0
/-- is the folder of a path among these? -/
def thereN (pre : List Nr) (p : ByteArray) : Bool := decide (p.size = 0) || pre.any fun m => decide (m.kind = 1) && decide (m.at_ = p)
/-- the error of a node behind others -/
def stepN (pre : List Nr) (x : Nr) : Nat :=
  if fitN x ≠ 0 then fitN x else if (match pre.getLast? with | some y => decide (cmpL (partsP y.at_) (partsP x.at_) ≠ -1) | none => false) = true then 4 else if thereN pre (parentP x.at_) = false then 7 else 0
def goN : List Nr → List Nr → Nat
  | _, [] => 0
  | pre, x :: r => if stepN pre x ≠ 0 then stepN pre x else goN (pre ++ [x]) r
def chkN (l : List Nr) : Nat := if 200 < l.length then 2 else goN [] l
theorem fit_parts {x : Nr} (h : fitN x = 0) : kindOk x = true ∧ isPath x.at_ = true ∧ formOk x = true := by
  unfold fitN at h
  split at h
  · cases h
  · split at h
    · cases h
    · split at h
      · cases h
      · refine ⟨?_, ?_, ?_⟩ <;> simp_all
theorem path_size {s : ByteArray} (h : isPath s = true) : s.size ≤ 200 := by
  unfold isPath at h
  simp only [Bool.and_eq_true, decide_eq_true_eq] at h
  exact h.1.1
/-- a record that bears nothing but its kind's -/
def PureN (x : Nr) : Prop := (x.kind ≠ 2 → x.size = 0 ∧ x.chunks = []) ∧ (x.kind ≠ 3 → x.target = noB)
theorem fit_nr {x : Nr} (h : fitN x = 0) (hp : PureN x) : NrFit x := by
  obtain ⟨h1, h2, h3⟩ := fit_parts h
  unfold kindOk at h1
  unfold formOk at h3
  simp only [Bool.and_eq_true, decide_eq_true_eq] at h1 h3
  obtain ⟨⟨⟨⟨⟨m1, m2⟩, t1⟩, t2⟩, h4⟩, h5⟩ := h3
  refine ⟨h1, Nat.le_trans (path_size h2) (by decide), ⟨m1, by omega⟩, ⟨t1, by omega⟩, fun hk => ?_, hp.1, fun hk => ?_, hp.2⟩
  · rw [hk] at h5
    simp only [decide_true, Bool.not_true, Bool.false_or] at h5
    unfold fileOk at h5
    simp only [Bool.and_eq_true, decide_eq_true_eq, List.all_eq_true] at h5
    obtain ⟨⟨⟨⟨z1, z2⟩, z3⟩, _⟩, z4⟩ := h5
    exact ⟨⟨z1, by omega⟩, by omega, z4⟩
  · rw [hk] at h4
    simp only [decide_true, Bool.not_true, Bool.false_or] at h4
    unfold tgt at h4
    simp only [Bool.and_eq_true, decide_eq_true_eq] at h4
    omega
theorem go_fit : ∀ (l pre : List Nr), goN pre l = 0 → ∀ x ∈ l, fitN x = 0
  | [], _, _, x, hx => by cases hx
  | y :: r, pre, h, x, hx => by
    simp only [goN] at h
    split at h
    · next hs => exact absurd h hs
    · next hs =>
      have hs : stepN pre y = 0 := by omega
      rcases List.mem_cons.1 hx with rfl | hx
      · unfold stepN at hs
        split at hs
        · next h1 => exact absurd hs h1
        · next h1 => omega
      · exact go_fit r _ h x hx
theorem chk_fit {l : List Nr} (h : chkN l = 0) : l.length ≤ 200 ∧ ∀ x ∈ l, fitN x = 0 := by
  unfold chkN at h
  split at h
  · cases h
  · exact ⟨by omega, go_fit l [] h⟩
/-- what a decoder gives -/
def endN (l : List Nr) (s : ByteArray) (e : Nat) : List Nr × Nat := if e ≠ 0 then ([], e) else if s.size ≠ 0 then ([], 3) else if chkN l ≠ 0 then ([], chkN l) else (l, 0)
def decN (s : ByteArray) : List Nr × Nat :=
  if (numE s 0).2.2 = 0 ∧ 200 < (numE s 0).1 then ([], 2) else
  endN (nodesE (numE s 0).1 (numE s 0).2.1 (numE s 0).2.2).1 (nodesE (numE s 0).1 (numE s 0).2.1 (numE s 0).2.2).2.1 (nodesE (numE s 0).1 (numE s 0).2.1 (numE s 0).2.2).2.2
theorem decN_of {s s1 s2 : ByteArray} {n e1 e2 : Nat} {l : List Nr} (h1 : numE s 0 = (n, s1, e1)) (h2 : ¬ (e1 = 0 ∧ 200 < n)) (h3 : nodesE n s1 e1 = (l, s2, e2)) : decN s = endN l s2 e2 := by
  unfold decN
  simp only [h1, h3]
  rw [if_neg h2]
theorem decN_big {s s1 : ByteArray} {n e1 : Nat} (h1 : numE s 0 = (n, s1, e1)) (h2 : e1 = 0 ∧ 200 < n) : decN s = ([], 2) := by
  unfold decN
  simp only [h1]
  rw [if_pos h2]
theorem decN_enc {l : List Nr} (h : chkN l = 0) (hp : ∀ x ∈ l, PureN x) : decN (bs (encN l)) = (l, 0) := by
  obtain ⟨hl, hf⟩ := chk_fit h
  have h1 := numE_var l.length (bodyN l) (by omega)
  have h2 := nodesE_body l [] (fun x hx => fit_nr (hf x hx) (hp x hx))
  rw [List.append_nil] at h2
  unfold encN
  rw [decN_of h1 (by omega) h2]
  unfold endN
  rw [if_neg (by decide), if_neg (by decide), if_neg (by omega)]
theorem decN_more {l : List Nr} (h : chkN l = 0) (hp : ∀ x ∈ l, PureN x) (c : UInt8) : decN (bs (encN l ++ [c])) = ([], 3) := by
  obtain ⟨hl, hf⟩ := chk_fit h
  have h1 := numE_var l.length (bodyN l ++ [c]) (by omega)
  have h2 := nodesE_body l [c] (fun x hx => fit_nr (hf x hx) (hp x hx))
  unfold encN
  rw [List.append_assoc, decN_of h1 (by omega) h2]
  unfold endN
  rw [if_neg (by decide), if_pos (by rw [bs_size]; simp)]
theorem encN_inj {a b : List Nr} (ha : chkN a = 0) (hb : chkN b = 0) (pa : ∀ x ∈ a, PureN x) (pb : ∀ x ∈ b, PureN x) (h : encN a = encN b) : a = b := by
  have h1 := decN_enc ha pa
  rw [h, decN_enc hb pb] at h1
  simp only [Prod.mk.injEq] at h1
  exact h1.1.symm
theorem decN_back {s : ByteArray} (h : (decN s).2 = 0) (hs : s.size ≤ 1099511627776) : chkN (decN s).1 = 0 ∧ bs (encN (decN s).1) = s ∧ ∀ x ∈ (decN s).1, PureN x := by
  rcases h1 : numE s 0 with ⟨n, s1, e1⟩
  by_cases h2 : e1 = 0 ∧ 200 < n
  · rw [decN_big h1 h2] at h; cases h
  rcases h3 : nodesE n s1 e1 with ⟨l, s2, e2⟩
  rw [decN_of h1 h2 h3] at h ⊢
  unfold endN at h ⊢
  by_cases he : e2 = 0
  · subst he
    rw [if_neg (by decide)] at h ⊢
    by_cases hz : s2.size = 0
    · rw [if_neg (by omega)] at h ⊢
      by_cases hc : chkN l = 0
      · rw [if_neg (by omega)]
        have z1 := (numE_le s 0).2
        rw [h1] at z1
        obtain ⟨rfl, a3, b3, c3⟩ := nodesE_back n h3 (Nat.le_trans z1 hs)
        obtain ⟨_, a1, _⟩ := numE_back h1
        refine ⟨hc, ?_, fun x hx => ⟨(c3 x hx).no2, (c3 x hx).no3⟩⟩
        apply ba_inj
        rw [bs_list, a1, a3]
        have : s2.data.toList = [] := List.eq_nil_of_length_eq_zero (by rw [ba_len, hz])
        rw [this, List.append_nil]
        unfold encN
        rw [b3]
      · rw [if_pos hc] at h
        exact absurd h hc
    · rw [if_pos hz] at h; cases h
  · rw [if_pos he] at h
    exact absurd h he
theorem decN_no {s : ByteArray} (h : (decN s).2 ≠ 0) : (decN s).1 = [] := by
  rcases h1 : numE s 0 with ⟨n, s1, e1⟩
  by_cases h2 : e1 = 0 ∧ 200 < n
  · rw [decN_big h1 h2]
  rcases h3 : nodesE n s1 e1 with ⟨l, s2, e2⟩
  rw [decN_of h1 h2 h3] at h ⊢
  unfold endN at h ⊢
  split
  · rfl
  · split
    · rfl
    · split
      · rfl
      · next h1 h2 h3 => rw [if_neg h1, if_neg h2, if_neg h3] at h; exact absurd rfl h
end Go.Proofs.YtaoejgnfoecpfaaDoor
