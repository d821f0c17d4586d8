/- The document's Name, Count, Cut; the program's Count, Cut. Parent and Base: the program's, and the document's; the document's Is. The order of paths is one; what is in a folder stands just behind it. -/
import Derived.Test.YtaoejgnfoecpfaaDoorJt5
import Derived.Test.YtaoejgnfoecpfaaDoorJt6
import Derived.Test.YtaoejgnfoecpfaaDoorJt7
import Derived.Lib.LastIndexByte
namespace Go.Proofs.YtaoejgnfoecpfaaDoor
set_option linter.unusedVariables false
set_option linter.unusedSimpArgs false
set_option linter.unusedSectionVars false
open Go.RowKit

def strOf : Value → ByteArray
  | .string s => s
  | _ => ⟨#[]⟩
theorem ext_size (s : ByteArray) (p : Nat) : (s.extract p s.size).size = s.size - p := by rw [ByteArray.size_extract]; omega
theorem ext_ext (s : ByteArray) (p n : Nat) : (s.extract p s.size).extract n (s.extract p s.size).size = s.extract (p + n) s.size := by
  rw [ext_size]
  apply ByteArray.ext
  simp only [ByteArray.data_extract, Array.extract_extract]
  congr 1
  omega
theorem runeI_ext (s : ByteArray) (p : Nat) (h : p < s.size) : runeI (s.extract p s.size) = if brokenB s p = true then (-1, 1) else (((Utf8.decode s p).1 : Int), (Utf8.decode s p).2) := by
  unfold runeI brokenB
  rw [decode_ext s p h]
  simp
theorem broken_w {s : ByteArray} {p : Nat} (h : brokenB s p = true) : Utf8.decode s p = (65533, 1) := by simpa [brokenB] using h
theorem ext_nil (s : ByteArray) (p : Nat) (h : ¬ p < s.size) : (s.extract p s.size).toList.isEmpty = true := by
  rw [toList_isEmpty, ext_size]; exact decide_eq_true (by omega)
theorem ext_some (s : ByteArray) (p : Nat) (h : p < s.size) : (s.extract p s.size).toList.isEmpty = false := by
  rw [toList_isEmpty, ext_size]; exact decide_eq_false (by omega)
theorem ext_zero (s : ByteArray) : s.extract 0 s.size = s := by
  apply ByteArray.ext
  simp

set_option maxRecDepth 100000 in
set_option maxHeartbeats 3200000 in
theorem refname_any (s : ByteArray) (w : World) (hs : s.size ≤ 1099511627776) :
    Calls Tryd.prog 126 #[.string s] w fun e w' => e = .returned (.bool (nameOk s)) ∧ w = w' := by
  rcases dot_cases s with h | h | h | ⟨h0, h1, h2⟩
  · have := size0 h
    subst this
    have HN := Lib.hid (show nameOk ⟨#[]⟩ = false by decide +kernel)
    go_enter Tryd.func126, Tryd.ntmps126
    go_wp2
    go_ret
    exact ⟨ret_bool HN.out.symm, rfl⟩
  · subst h
    have HN := Lib.hid (show nameOk ⟨#[46]⟩ = false by decide +kernel)
    go_enter Tryd.func126, Tryd.ntmps126
    go_wp2
    go_ret
    exact ⟨ret_bool HN.out.symm, rfl⟩
  · subst h
    have HN := Lib.hid (show nameOk ⟨#[46, 46]⟩ = false by decide +kernel)
    go_enter Tryd.func126, Tryd.ntmps126
    go_wp2
    go_ret
    exact ⟨ret_bool HN.out.symm, rfl⟩
  · have hq1 := list_ne (l := [46]) h1
    have hq2 := list_ne (l := [46, 46]) h2
    have e1 : nameOk s = (decide (s.size ≤ 60) && nameFrom s s.size 0) := by
      unfold nameOk
      rw [decide_eq_true h0, decide_eq_true h1, decide_eq_true h2]; simp
    clear h1 h2
    by_cases hz : s.size ≤ 60
    · rw [decide_eq_true hz, Bool.true_and] at e1
      have E1 := Lib.hid e1
      have HZ0 := Lib.hid (ext_zero s)
      clear e1
      go_enter Tryd.func126, Tryd.ntmps126
      go_wp2
      go_loop [0] (fun t => ∃ (p f : Nat), t = .string (s.extract p s.size) ∧ p ≤ s.size ∧ nameFrom s f p = nameFrom s s.size 0 ∧ s.size ≤ p + f) (fun t => (strOf t).size)
      case atStart => exact ⟨0, s.size, by rw [HZ0.out], Nat.zero_le _, rfl, by omega⟩
      case round =>
        obtain ⟨p, f, rfl, hps, hn, hf⟩ := hrel
        have HN := Lib.hid hn
        clear hn hq1 hq2
        by_cases hp : p < s.size
        · have hem := ext_some s p hp
          have hfit := decode_fits s p hp
          have hR := rune_any (s.extract p s.size) w (by rw [ext_size]; omega) (by rw [ext_size]; omega)
          rw [runeI_ext s p hp] at hR
          have HR := Lib.hid hR
          have hstep := nameFrom_step s f p hp hf
          have HBAD := Lib.hid (nameFrom_bad s f p hp hf)
          have HBN := Lib.hid (show badN s p = (decide ((Utf8.decode s p).1 < 32) || decide ((Utf8.decode s p).1 = 47) || decide ((Utf8.decode s p).1 = 127) || brokenB s p) from rfl)
          have HSTEP := Lib.hid hstep
          have HEX := Lib.hid (ext_ext s p (Utf8.decode s p).2)
          have hsz := ext_size s p
          have hsz1 : (s.extract p s.size).size + p = s.size := by omega
          clear hR hstep hsz
          obtain ⟨f1, f2, f3, f4⟩ := hfit
          cases hbr : brokenB s p with
          | true =>
            have HF := Lib.hid (HBAD.out (by rw [HBN.out, hbr]; simp))
            rw [hbr, if_pos rfl] at HR
            clear hbr
            go_wp2_with fail
            refine HR.out.mono ?_
            rintro e w4 ⟨rfl, rfl⟩
            go_wp2
            go_ret
            exact ⟨ret_bool (by rw [E1.out, ← HN.out, HF.out]), rfl⟩
          | false =>
            rw [hbr, if_neg (by simp)] at HR
            have HBR := Lib.hid hbr
            clear hbr
            generalize (Utf8.decode s p).1 = c at *
            generalize (Utf8.decode s p).2 = n at *
            generalize hu : s.extract p s.size = u at *
            clear hu
            have hn0 : (0 : Int) ≤ (n : Int) := by omega
            have hn1 : (n : Int) ≤ (u.size : Int) := by omega
            rcases (by omega : (c : Int) < 32 ∨ ((32 : Int) ≤ (c : Int) ∧ c = 47) ∨ ((32 : Int) ≤ (c : Int) ∧ c ≠ 47 ∧ c = 127) ∨ ((32 : Int) ≤ (c : Int) ∧ c ≠ 47 ∧ c ≠ 127)) with g | ⟨g1, g2⟩ | ⟨g1, g2, g3⟩ | ⟨g1, g2, g3⟩
            · have HF := Lib.hid (HBAD.out (by rw [HBN.out, decide_eq_true (show c < 32 by omega)]; rfl))
              go_wp2_with fail
              refine HR.out.mono ?_
              rintro e w4 ⟨rfl, rfl⟩
              go_wp2
              go_ret
              exact ⟨ret_bool (by rw [E1.out, ← HN.out, HF.out]), rfl⟩
            · have HF := Lib.hid (HBAD.out (by rw [HBN.out, decide_eq_true g2]; simp))
              subst g2
              go_wp2_with fail
              refine HR.out.mono ?_
              rintro e w4 ⟨rfl, rfl⟩
              go_wp2
              go_ret
              exact ⟨ret_bool (by rw [E1.out, ← HN.out, HF.out]), rfl⟩
            · have HF := Lib.hid (HBAD.out (by rw [HBN.out, decide_eq_true g3]; simp))
              subst g3
              go_wp2_with fail
              refine HR.out.mono ?_
              rintro e w4 ⟨rfl, rfl⟩
              go_wp2
              go_ret
              exact ⟨ret_bool (by rw [E1.out, ← HN.out, HF.out]), rfl⟩
            · have q1 : ((c : Int) == 47) = false := by simp; omega
              have q2 : ((c : Int) == 127) = false := by simp; omega
              obtain ⟨g, e2, e3⟩ := HSTEP.out (by rw [HBN.out, decide_eq_false (show ¬ c < 32 by omega), decide_eq_false g2, decide_eq_false g3, HBR.out]; rfl)
              have HG := Lib.hid e2
              clear g2 g3 e2
              go_wp2_with fail
              refine HR.out.mono ?_
              rintro e w4 ⟨rfl, rfl⟩
              go_wp2
              go_round
              case rel => exact ⟨p + n, g, by rw [← HEX.out], by omega, HG.out.symm.trans HN.out, e3⟩
              case measure =>
                have := ext_size s (p + n)
                rw [← HEX.out] at this
                simp only [strOf]
                omega
        · have hem := ext_nil s p hp
          have HF := Lib.hid (nameFrom_end s f p hp)
          go_wp2
          go_ret
          exact ⟨ret_bool (by rw [E1.out, ← HN.out, HF.out]), rfl⟩
    · rw [decide_eq_false hz, Bool.false_and] at e1
      have E1 := Lib.hid e1
      clear e1
      go_enter Tryd.func126, Tryd.ntmps126
      go_wp2
      go_ret
      exact ⟨ret_bool E1.out.symm, rfl⟩
end Go.Proofs.YtaoejgnfoecpfaaDoor
namespace Go.Proofs.YtaoejgnfoecpfaaDoor
set_option linter.unusedVariables false
set_option linter.unusedSimpArgs false
set_option linter.unusedSectionVars false
open Go.RowKit

def parentP (s : ByteArray) : ByteArray := s.extract 0 (Lib.lastIndexByte s 47).toNat
def baseP (s : ByteArray) : ByteArray := s.extract (Lib.lastIndexByte s 47 + 1).toNat s.size

theorem splitL_append (a b : List UInt8) : splitL (a ++ 47 :: b) = splitL a ++ splitL b := by
  induction a with
  | nil => rw [List.nil_append, splitL_slash]; rfl
  | cons c r ih =>
    by_cases h : c = 47
    · rw [h, List.cons_append, splitL_slash, splitL_slash, ih]; rfl
    · rw [List.cons_append, splitL_other h, splitL_other h, ih]
      have := splitL_ne r
      cases hs : splitL r with
      | nil => exact absurd hs this
      | cons x t => rfl
theorem splitL_none (b : List UInt8) (h : ∀ c ∈ b, c ≠ 47) : splitL b = [b] := by
  induction b with
  | nil => rfl
  | cons c r ih =>
    rw [splitL_other (h c (by simp)), ih (fun x hx => h x (by simp [hx]))]
    rfl
theorem ba_get (s : ByteArray) (i : Nat) (h : i < s.size) : s.data[i]! = s[i] := by
  have hd : i < s.data.size := h
  rw [getElem!_pos s.data i hd]; rfl
theorem last_cases (s : ByteArray) : (Lib.lastIndexByte s 47 = -1 ∧ partsR s = [s.data.toList] ∧ (∀ j (h : j < s.size), s[j] ≠ 47)) ∨
    (∃ i, ∃ h : i < s.size, Lib.lastIndexByte s 47 = i ∧ s[i] = 47 ∧ partsR s = splitL (s.extract 0 i).data.toList ++ [(s.extract (i + 1) s.size).data.toList] ∧ ∀ j (h : j < s.size), i < j → s[j] ≠ 47) := by
  rcases Lib.lastIndexByte_spec s 47 with ⟨h, hn⟩ | ⟨i, hi, he, hc, hn⟩
  · have hno : ∀ j (h : j < s.size), s[j] ≠ 47 := fun j hj e => hn j hj (by rw [ba_get s j hj, e]; rfl)
    refine .inl ⟨h, ?_, hno⟩
    refine splitL_none _ fun c hc e => ?_
    obtain ⟨j, hj, hj2⟩ := List.getElem_of_mem hc
    have hjs : j < s.size := by simpa using hj
    exact hno j hjs (by rw [← e, ← hj2]; rfl)
  · have hno : ∀ j (h : j < s.size), i < j → s[j] ≠ 47 := fun j hj hij e => hn j hij hj (by rw [ba_get s j hj, e]; rfl)
    have h47 : s[i] = 47 := by
      rw [ba_get s i hi] at hc
      apply UInt8.toNat_inj.1
      have : s[i].toNat = 47 := by omega
      rw [this]; rfl
    refine .inr ⟨i, hi, he, h47, ?_, hno⟩
    have e1 : (s.extract 0 i).data.toList = s.data.toList.take i := Lib.extract_from_zero s i
    have e2 : (s.extract (i + 1) s.size).data.toList = s.data.toList.drop (i + 1) := Lib.extract_to_end s (i + 1)
    have e3 : s.data.toList = s.data.toList.take i ++ 47 :: s.data.toList.drop (i + 1) := by
      have h2 : s.data.toList.drop i = s[i] :: s.data.toList.drop (i + 1) := List.drop_eq_getElem_cons (by simpa using hi)
      rw [← h47, ← h2, List.take_append_drop]
    unfold partsR
    rw [e3, splitL_append, e1, e2]
    congr 1
    refine (splitL_none _ fun c hc e => ?_)
    obtain ⟨j, hj, hj2⟩ := List.getElem_of_mem hc
    rw [List.getElem_drop] at hj2
    have hjs : i + 1 + j < s.size := by simp at hj; have : s.data.size = s.size := rfl; omega
    exact hno (i + 1 + j) hjs (by omega) (by rw [← e, ← hj2]; rfl)
theorem last_range (s : ByteArray) : -1 ≤ Lib.lastIndexByte s 47 ∧ Lib.lastIndexByte s 47 < s.size := by
  rcases last_cases s with ⟨h, _⟩ | ⟨i, h, e, _⟩ <;> omega
theorem partsP_base (s : ByteArray) : partsP s = (partsP s).take ((partsP s).length - 1) ++ [baseP s] := by
  rcases last_cases s with ⟨h, hp, _⟩ | ⟨i, h, e, _, hp, _⟩
  · unfold partsP baseP
    rw [hp, h]
    simp only [List.map_cons, List.map_nil, List.length_cons, List.length_nil]
    rw [strB_self, show ((-1 : Int) + 1).toNat = 0 from rfl, ext_zero]
    rfl
  · unfold partsP baseP
    rw [hp, e, List.map_append, List.map_cons, List.map_nil, strB_self]
    rw [show ((i : Int) + 1).toNat = i + 1 by omega]
    simp
theorem partsP_last (s : ByteArray) : (partsP s)[(partsP s).length - 1]? = some (baseP s) := by
  have h1 := partsP_ne s
  have h2 := partsP_base s
  generalize baseP s = b at *
  generalize partsP s = l at *
  rw [h2]
  have e : (l.take (l.length - 1) ++ [b]).length - 1 = (l.take (l.length - 1)).length := by simp
  rw [e, List.getElem?_append_right (Nat.le_refl _)]
  simp
theorem ext_00 (s : ByteArray) : s.extract 0 0 = ⟨#[]⟩ := by
  apply ByteArray.ext
  simp
theorem splitL_size : ∀ (l : List UInt8) (p : List UInt8), p ∈ splitL l → p.length ≤ l.length
  | [], p, h => by simp [splitL] at h; simp [h]
  | c :: r, p, h => by
    by_cases hc : c = 47
    · rw [hc, splitL_slash] at h
      rcases List.mem_cons.1 h with rfl | h
      · simp
      · have := splitL_size r p h; simp; omega
    · rw [splitL_other hc] at h
      have ih := splitL_size r
      cases hs : splitL r with
      | nil => exact absurd hs (splitL_ne r)
      | cons x t =>
        rw [hs] at h ih
        simp only [headApp, List.mem_cons] at h
        rcases h with rfl | h
        · have := ih x (by simp); simp; omega
        · have := ih p (by simp [h]); simp; omega
theorem part_size (s x : ByteArray) (h : x ∈ partsP s) : x.size ≤ s.size := by
  unfold partsP partsR at h
  obtain ⟨l, hl, rfl⟩ := List.mem_map.1 h
  have := splitL_size _ l hl
  show l.toArray.size ≤ s.data.size
  simpa using this

set_option maxRecDepth 100000 in
set_option maxHeartbeats 400000 in
theorem pparent_any (s : ByteArray) (w : World) (hs : s.size ≤ 1000000) : Calls Tryd.prog 20 #[.string s] w fun e w' => e = .returned (.string (parentP s)) ∧ w = w' := by
  have H1 := Lib.hid (Tryd.strings_LastIndexByte s 47 (by omega) w)
  have hr := last_range s
  have HP := Lib.hid (show parentP s = s.extract 0 (Lib.lastIndexByte s 47).toNat from rfl)
  generalize Lib.lastIndexByte s 47 = q at *
  have HQ := Lib.hid (show (max q 0).toNat = q.toNat by omega)
  go_enter Tryd.func20, Tryd.ntmps20
  go_wp2_with fail
  refine H1.out.mono ?_
  rintro e w1 ⟨rfl, rfl⟩
  go_wp2
  go_ret
  exact ⟨ret_str (by rw [HP.out, HQ.out]), rfl⟩
set_option maxRecDepth 100000 in
set_option maxHeartbeats 800000 in
theorem refparent_any (s : ByteArray) (w : World) (hs : s.size ≤ 1000000) : Calls Tryd.prog 86 #[.string s] w fun e w' => e = .returned (.string (parentP s)) ∧ w = w' := by
  go_enter Tryd.func86, Tryd.ntmps86
  go_wp2
  go_loop [3] (fun t => ∃ k : Nat, k ≤ s.size ∧ t = .int .i64 ((k : Int) - 1) ∧ Lib.lastIdx s 47 k = Lib.lastIndexByte s 47) (fun t => (intOf t + 1).toNat)
  case atStart => exact ⟨s.size, Nat.le_refl _, rfl, rfl⟩
  case round =>
    obtain ⟨k, hk, rfl, hn⟩ := hrel
    have HN := Lib.hid hn
    clear hn
    cases k with
    | zero =>
      have hz : ¬ (0 : Int) ≤ ((0 : Nat) : Int) - 1 := by omega
      go_wp2
      go_ret
      exact ⟨ret_str (by unfold parentP; rw [← HN.out, show (Lib.lastIdx s 47 0).toNat = 0 from rfl, ext_00]), rfl⟩
    | succ k =>
      have hkl : k < s.size := by omega
      have ek : ((k + 1 : Nat) : Int) - 1 = (k : Int) := by omega
      rw [ek]
      clear ek
      have hk0 : (0 : Int) ≤ (k : Int) := by omega
      by_cases h : s[k] = 47
      · have hq : (s[k].toNat : Int) = 47 := by rw [h]; rfl
        have HF := Lib.hid (Lib.lastIdx_hit s 47 k (by rw [ba_get s k hkl]; exact hq))
        go_wp2
        go_ret
        exact ⟨ret_str (by unfold parentP; rw [← HN.out, HF.out]; simp), rfl⟩
      · have hq : ¬ (s[k].toNat : Int) = 47 := by
          intro e
          apply h
          apply UInt8.toNat_inj.1
          have : s[k].toNat = 47 := by omega
          rw [this]; rfl
        have HF := Lib.hid (Lib.lastIdx_miss s 47 k (by rw [ba_get s k hkl]; exact hq))
        go_wp2
        go_round
        case rel => exact ⟨k, by omega, rfl, by rw [← HF.out]; exact HN.out⟩
        case measure => simp [intOf]

set_option maxRecDepth 100000 in
set_option maxHeartbeats 1600000 in
theorem refis_big (s : ByteArray) (w : World) (hs : s.size ≤ 1100000) : Calls Tryd.prog 113 #[.string s] w fun e w' => e = .returned (.bool (isPath s)) ∧ Below w.heap.size w w' := by
  have hla := partsP_len s
  have HIS := Lib.hid (isPath_parts s)
  have HNM := Lib.hid fun (x : ByteArray) W (h : x ∈ partsP s) => refname_any x W (by
    have := part_size s x h; omega)
  have H1 := Lib.hid (parts_big s w hs)
  go_enter Tryd.func113, Tryd.ntmps113
  go_wp2_with fail
  refine H1.out.mono ?_
  rintro e w1 ⟨ga, ca, rfl, ho1, hb1⟩
  obtain ⟨hr1, hn1⟩ := parts_row ho1
  have HX := Lib.hid hr1
  rw [hn1]
  generalize partsP s = xs at *
  clear hr1 hn1 ho1 H1
  by_cases hz : s.size ≤ 200
  · by_cases hk : xs.length ≤ 8
    · have HI := Lib.hid (show isPath s = xs.all nameOk by rw [HIS.out, decide_eq_true hz, decide_eq_true hk]; simp)
      have h1 : ¬ (200 : Int) < (s.size : Int) := by omega
      have h2 : ¬ (8 : Int) < (xs.length : Int) := by omega
      go_wp2
      go_loop [18] (fun t => ∃ k : Nat, t = .int .i64 (k : Nat) ∧ k ≤ xs.length ∧ (xs.drop k).all nameOk = xs.all nameOk) (fun t => xs.length - (intOf t).toNat)
      case atStart => exact ⟨0, rfl, Nat.zero_le _, rfl⟩
      case round =>
        obtain ⟨k, rfl, hkx, hn⟩ := hrel
        have HN := Lib.hid hn
        clear hn
        by_cases hkl : k < xs.length
        · have hcx := HX.out k xs[k] (List.getElem?_eq_getElem hkl)
          have HDX := Lib.hid (drop_some hkl)
          have HC := Lib.hid fun W => HNM.out xs[k] W (List.getElem_mem hkl)
          generalize xs[k] = x at *
          have HA := Lib.hid (show (x :: xs.drop (k + 1)).all nameOk = (nameOk x && (xs.drop (k + 1)).all nameOk) by simp)
          go_wp2_with fail
          refine (HC.out _).mono ?_
          rintro e w4 ⟨rfl, rfl⟩
          cases hok : nameOk x with
          | true =>
            have HO := Lib.hid hok
            clear hok
            go_wp2
            go_round
            case rel => exact ⟨k + 1, by go_num, by omega, by rw [← HN.out, HDX.out, HA.out, HO.out]; rfl⟩
            case measure => simp [intOf]; omega
          | false =>
            have HO := Lib.hid hok
            clear hok
            go_wp2
            go_ret
            exact ⟨ret_bool (by rw [HI.out, ← HN.out, HDX.out, HA.out, HO.out]; rfl), hb1⟩
        · have HF := Lib.hid (show xs.drop k = [] from List.drop_of_length_le (by omega))
          go_wp2
          go_ret
          exact ⟨ret_bool (by rw [HI.out, ← HN.out, HF.out]; rfl), hb1⟩
    · have HI := Lib.hid (show isPath s = false by rw [HIS.out, decide_eq_false hk]; simp)
      have h1 : ¬ (200 : Int) < (s.size : Int) := by omega
      have h2 : (8 : Int) < (xs.length : Int) := by omega
      go_wp2
      go_ret
      exact ⟨ret_bool HI.out.symm, hb1⟩
  · have HI := Lib.hid (show isPath s = false by rw [HIS.out, decide_eq_false hz]; simp)
    have h1 : (200 : Int) < (s.size : Int) := by omega
    go_wp2
    go_ret
    exact ⟨ret_bool HI.out.symm, hb1⟩
theorem refis_any (s : ByteArray) (w : World) (hs : s.size ≤ 1000000) : Calls Tryd.prog 113 #[.string s] w fun e w' => e = .returned (.bool (isPath s)) ∧ Below w.heap.size w w' :=
  refis_big s w (by omega)
end Go.Proofs.YtaoejgnfoecpfaaDoor
namespace Go.Proofs.YtaoejgnfoecpfaaDoor
set_option linter.unusedVariables false
set_option linter.unusedSimpArgs false
set_option linter.unusedSectionVars false
open Go.RowKit

theorem bl_irrefl : ∀ x : List UInt8, Op.bytesLess x x = false
  | [] => rfl
  | a :: x => by simp [Op.bytesLess, bl_irrefl x]
theorem bl_trans : ∀ x y z : List UInt8, Op.bytesLess x y = true → Op.bytesLess y z = true → Op.bytesLess x z = true
  | _, [], _, h, _ => by simp [Op.bytesLess] at h
  | _, _ :: _, [], _, h => by simp [Op.bytesLess] at h
  | [], _ :: _, _ :: _, _, _ => rfl
  | a :: x, b :: y, c :: z, h1, h2 => by
    simp only [Op.bytesLess, Bool.or_eq_true, decide_eq_true_eq, Bool.and_eq_true, beq_iff_eq] at h1 h2 ⊢
    rcases h1 with h1 | ⟨rfl, h1⟩
    · rcases h2 with h2 | ⟨rfl, h2⟩
      · exact Or.inl (UInt8.lt_trans h1 h2)
      · exact Or.inl h1
    · rcases h2 with h2 | ⟨rfl, h2⟩
      · exact Or.inl h2
      · exact Or.inr ⟨rfl, bl_trans x y z h1 h2⟩
theorem bl_tri : ∀ x y : List UInt8, Op.bytesLess x y = true ∨ x = y ∨ Op.bytesLess y x = true
  | [], [] => Or.inr (Or.inl rfl)
  | [], _ :: _ => Or.inl rfl
  | _ :: _, [] => Or.inr (Or.inr rfl)
  | a :: x, b :: y => by
    simp only [Op.bytesLess, Bool.or_eq_true, decide_eq_true_eq, Bool.and_eq_true, beq_iff_eq, List.cons.injEq]
    by_cases h : a < b
    · exact Or.inl (Or.inl h)
    · by_cases h2 : b < a
      · exact Or.inr (Or.inr (Or.inl h2))
      · have e : a = b := by
          apply UInt8.toNat_inj.1
          rw [UInt8.lt_iff_toNat_lt] at h h2
          omega
        subst e
        rcases bl_tri x y with h3 | h3 | h3
        · exact Or.inl (Or.inr ⟨rfl, h3⟩)
        · exact Or.inr (Or.inl ⟨rfl, h3⟩)
        · exact Or.inr (Or.inr (Or.inr ⟨rfl, h3⟩))
theorem ba_eqT {a b : ByteArray} (h : a.toList = b.toList) : a = b := by
  rw [ba_toList, ba_toList] at h
  exact ByteArray.ext (Array.toList_inj.1 h)
theorem sCmp_less {a b : ByteArray} : sCmp a b = -1 ↔ Op.bytesLess a.toList b.toList = true := by
  unfold sCmp lessS
  split
  · next h => simp [h]
  · next h => split <;> simp [h]
theorem sCmp_zero {a b : ByteArray} : sCmp a b = 0 ↔ a = b := by
  unfold sCmp lessS
  split
  · next h =>
    refine ⟨fun e => by simp at e, fun e => ?_⟩
    rw [e, bl_irrefl] at h
    simp at h
  · split
    · next h => exact ⟨fun _ => ba_eqT h, fun _ => rfl⟩
    · next h => exact ⟨fun e => by simp at e, fun e => absurd (by rw [e]) h⟩
theorem sCmp_turn (a b : ByteArray) : sCmp b a = - sCmp a b := by
  rcases bl_tri a.toList b.toList with h | h | h
  · have h1 := sCmp_less.2 h
    have h2 : ¬ sCmp b a = -1 := fun e => by
      have := bl_trans _ _ _ h (sCmp_less.1 e)
      rw [bl_irrefl] at this; simp at this
    have h3 : ¬ sCmp b a = 0 := fun e => by
      rw [sCmp_zero.1 e, bl_irrefl] at h; simp at h
    rcases sCmp_range b a with e | e | e <;> omega
  · rw [ba_eqT h, sCmp_zero.2 rfl]; rfl
  · have h1 := sCmp_less.2 h
    have h2 : ¬ sCmp a b = -1 := fun e => by
      have := bl_trans _ _ _ h (sCmp_less.1 e)
      rw [bl_irrefl] at this; simp at this
    have h3 : ¬ sCmp a b = 0 := fun e => by
      rw [sCmp_zero.1 e, bl_irrefl] at h; simp at h
    rcases sCmp_range a b with e | e | e <;> omega
theorem sCmp_trans {a b c : ByteArray} (h1 : sCmp a b = -1) (h2 : sCmp b c = -1) : sCmp a c = -1 := sCmp_less.2 (bl_trans _ _ _ (sCmp_less.1 h1) (sCmp_less.1 h2))

theorem cmpL_range : ∀ x y : List ByteArray, cmpL x y = -1 ∨ cmpL x y = 0 ∨ cmpL x y = 1
  | [], [] => Or.inr (Or.inl rfl)
  | [], _ :: _ => Or.inl rfl
  | _ :: _, [] => Or.inr (Or.inr rfl)
  | a :: x, b :: y => by
    simp only [cmpL]
    split
    · exact cmpL_range x y
    · exact sCmp_range a b
theorem cmpL_zero : ∀ x y : List ByteArray, cmpL x y = 0 ↔ x = y
  | [], [] => by simp [cmpL]
  | [], _ :: _ => by simp [cmpL]
  | _ :: _, [] => by simp [cmpL]
  | a :: x, b :: y => by
    simp only [cmpL, List.cons.injEq]
    split
    · next h => rw [cmpL_zero x y, sCmp_zero.1 h]; simp
    · next h => exact ⟨fun e => absurd e h, fun e => absurd (sCmp_zero.2 e.1) h⟩
theorem cmpL_turn : ∀ x y : List ByteArray, cmpL y x = - cmpL x y
  | [], [] => rfl
  | [], _ :: _ => rfl
  | _ :: _, [] => rfl
  | a :: x, b :: y => by
    simp only [cmpL]
    have := sCmp_turn a b
    have := cmpL_turn x y
    split <;> split <;> omega
theorem cmpL_trans : ∀ x y z : List ByteArray, cmpL x y = -1 → cmpL y z = -1 → cmpL x z = -1
  | [], [], _, h, _ => by simp [cmpL] at h
  | _ :: _, [], _, h, _ => by simp [cmpL] at h
  | _, _ :: _, [], _, h => by simp [cmpL] at h
  | [], _ :: _, _ :: _, _, _ => rfl
  | a :: x, b :: y, c :: z, h1, h2 => by
    simp only [cmpL] at h1 h2 ⊢
    split at h1
    · next e1 =>
      have := sCmp_zero.1 e1
      subst this
      split at h2
      · next e2 => rw [if_pos e2]; exact cmpL_trans x y z h1 h2
      · next e2 => rw [if_neg e2]; exact h2
    · next e1 =>
      split at h2
      · next e2 =>
        have := sCmp_zero.1 e2
        subst this
        rw [if_neg e1]; exact h1
      · next e2 =>
        have e3 := sCmp_trans h1 h2
        rw [if_neg (by omega)]; exact e3
theorem cmpL_min (x y z : List ByteArray) (h1 : cmpL x y ≤ 0) (h2 : cmpL y z ≤ 0) : cmpL x z = min (cmpL x y) (cmpL y z) := by
  rcases cmpL_range x y with e1 | e1 | e1
  · rcases cmpL_range y z with e2 | e2 | e2
    · rw [cmpL_trans x y z e1 e2, e1, e2]; rfl
    · rw [← (cmpL_zero y z).1 e2, e1, (cmpL_zero y y).2 rfl]; rfl
    · omega
  · rw [(cmpL_zero x y).1 e1, (cmpL_zero y y).2 rfl]; omega
  · omega
theorem cmpL_in (x : List ByteArray) : ∀ (z : List ByteArray), z ≠ [] → cmpL x (x ++ z) = -1 := by
  induction x with
  | nil => intro z hz; cases z with
    | nil => exact absurd rfl hz
    | cons a t => rfl
  | cons a x ih => intro z hz; simp only [cmpL, List.cons_append]; rw [if_pos (sCmp_zero.2 rfl)]; exact ih z hz
theorem cmpL_under : ∀ (x y : List ByteArray), cmpL x y = -1 → (∃ t, t ≠ [] ∧ y = x ++ t) ∨ ∀ z, cmpL (x ++ z) y = -1
  | [], [], h => by simp [cmpL] at h
  | [], b :: y, _ => Or.inl ⟨b :: y, by simp, rfl⟩
  | _ :: _, [], h => by simp [cmpL] at h
  | a :: x, b :: y, h => by
    simp only [cmpL] at h
    split at h
    · next e =>
      have := sCmp_zero.1 e
      subst this
      rcases cmpL_under x y h with ⟨t, ht, e2⟩ | h2
      · exact Or.inl ⟨t, ht, by rw [e2]; rfl⟩
      · exact Or.inr fun z => by simp only [cmpL, List.cons_append]; rw [if_pos e]; exact h2 z
    · next e => exact Or.inr fun z => by simp only [cmpL, List.cons_append]; rw [if_neg e]; exact h

/-- the parts joined again -/
def joinL : List (List UInt8) → List UInt8
  | [] => []
  | [x] => x
  | x :: y :: t => x ++ 47 :: joinL (y :: t)
theorem joinL_cons (x : List UInt8) {t : List (List UInt8)} (h : t ≠ []) : joinL (x :: t) = x ++ 47 :: joinL t := by
  cases t with
  | nil => exact absurd rfl h
  | cons a r => rfl
theorem join_split : ∀ l : List UInt8, joinL (splitL l) = l
  | [] => rfl
  | c :: r => by
    have ih := join_split r
    have hne := splitL_ne r
    by_cases h : c = 47
    · rw [h, splitL_slash, joinL_cons _ hne, ih]; rfl
    · rw [splitL_other h]
      cases hs : splitL r with
      | nil => exact absurd hs hne
      | cons x t =>
        rw [hs] at ih
        cases t with
        | nil => simp only [joinL] at ih; simp [headApp, joinL, ih]
        | cons y t => rw [joinL_cons _ (by simp)] at ih; simp only [headApp]; rw [joinL_cons _ (by simp), ← ih]; rfl
theorem joinL_app : ∀ (x t : List (List UInt8)), x ≠ [] → t ≠ [] → joinL (x ++ t) = joinL x ++ 47 :: joinL t
  | [], _, h, _ => absurd rfl h
  | [a], t, _, ht => joinL_cons a ht
  | a :: b :: x, t, _, ht => by
    rw [List.cons_append, joinL_cons _ (by simp), joinL_cons _ (by simp), joinL_app (b :: x) t (by simp) ht]
    simp
theorem strB_inj {x y : List UInt8} (h : strB x = strB y) : x = y := by
  have := congrArg (fun b : ByteArray => b.data.toList) h
  simpa [strB] using this
theorem mapB_inj {x y : List (List UInt8)} (h : x.map strB = y.map strB) : x = y := (List.map_inj_right fun _ _ h => strB_inj h).1 h
theorem partsP_inj {a b : ByteArray} (h : partsP a = partsP b) : a = b := by
  have h2 : splitL a.data.toList = splitL b.data.toList := mapB_inj h
  have := congrArg joinL h2
  rw [join_split, join_split] at this
  exact ByteArray.ext (Array.toList_inj.1 this)
/-- a folder, a slash, a name -/
def inP (a n : ByteArray) : ByteArray := a ++ ⟨#[47]⟩ ++ n
theorem inP_list (a n : ByteArray) : (inP a n).data.toList = a.data.toList ++ 47 :: n.data.toList := by
  simp [inP, ByteArray.data_append]
theorem inP_size (a n : ByteArray) : (inP a n).size = a.size + 1 + n.size := by
  unfold inP
  rw [ByteArray.size_append, ByteArray.size_append]; rfl
theorem partsP_in (a n : ByteArray) : partsP (inP a n) = partsP a ++ partsP n := by
  unfold partsP partsR
  rw [inP_list, splitL_append, List.map_append]
/-- what begins with a folder and a slash -/
theorem under_text (a b : ByteArray) (h : ∃ t, t ≠ [] ∧ partsP b = partsP a ++ t) : a.size < b.size ∧ b.extract 0 (a.size + 1) = a ++ ⟨#[47]⟩ := by
  obtain ⟨t, ht, he⟩ := h
  have hs : (splitL b.data.toList).map strB = (splitL a.data.toList).map strB ++ t := he
  obtain ⟨l1, l2, e0, e1, e2⟩ := List.map_eq_append_iff.1 hs
  have e3 := mapB_inj e1
  have ht2 : l2 ≠ [] := fun e => ht (by rw [← e2, e]; rfl)
  have e4 := congrArg joinL e0
  rw [join_split, e3, joinL_app _ _ (splitL_ne _) ht2, join_split] at e4
  have hz : b.size = a.size + 1 + (joinL l2).length := by
    have := congrArg List.length e4
    simp at this
    have h1 : b.data.size = b.size := rfl
    have h2 : a.data.size = a.size := rfl
    omega
  refine ⟨by omega, ?_⟩
  apply ByteArray.ext
  apply Array.toList_inj.1
  rw [Lib.extract_from_zero, e4]
  have h2 : a.data.toList.length = a.size := by simp
  rw [show a.size + 1 = a.data.toList.length + 1 by omega, List.take_length_add_append]
  simp [ByteArray.data_append]
theorem inP_empty_name (a : ByteArray) : partsP a ≠ [] := fun e => by have := partsP_ne a; rw [e] at this; simp at this
end Go.Proofs.YtaoejgnfoecpfaaDoor
