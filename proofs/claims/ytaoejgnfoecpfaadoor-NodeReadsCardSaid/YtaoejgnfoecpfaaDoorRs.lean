/- Parent and Base: the program's, and the document's; the document's Is. -/
import Derived.Test.YtaoejgnfoecpfaaDoorRm
import Derived.Test.YtaoejgnfoecpfaaDoorRg
import Derived.Test.YtaoejgnfoecpfaaDoorRd
import Derived.Lib.LastIndexByte
namespace Go.Proofs.YtaoejgnfoecpfaaDoor
open Go.RowKit

def parentP (s : ByteArray) : ByteArray := s.extract 0 (Lib.lastIndexByte s 47).toNat
def baseP (s : ByteArray) : ByteArray := s.extract (Lib.lastIndexByte s 47 + 1).toNat s.size

theorem splitL_append (a b : List UInt8) : splitL (a ++ 47 :: b) = splitL a ++ splitL b := by
  induction a with
  | nil => rw [List.nil_append, splitL_slash]; rfl
  | cons c r ih =>
    by_cases h : c = 47
    · rw [h, List.cons_append, splitL_slash, splitL_slash, ih]; rfl
    · rw [List.cons_append, splitL_other h, splitL_other h, ih]
      have := splitL_ne r
      cases hs : splitL r with
      | nil => exact absurd hs this
      | cons x t => rfl
theorem splitL_none (b : List UInt8) (h : ∀ c ∈ b, c ≠ 47) : splitL b = [b] := by
  induction b with
  | nil => rfl
  | cons c r ih =>
    rw [splitL_other (h c (by simp)), ih (fun x hx => h x (by simp [hx]))]
    rfl
theorem ba_get (s : ByteArray) (i : Nat) (h : i < s.size) : s.data[i]! = s[i] := by
  have hd : i < s.data.size := h
  rw [getElem!_pos s.data i hd]; rfl
theorem last_cases (s : ByteArray) : (Lib.lastIndexByte s 47 = -1 ∧ partsR s = [s.data.toList] ∧ (∀ j (h : j < s.size), s[j] ≠ 47)) ∨
    (∃ i, ∃ h : i < s.size, Lib.lastIndexByte s 47 = i ∧ s[i] = 47 ∧ partsR s = splitL (s.extract 0 i).data.toList ++ [(s.extract (i + 1) s.size).data.toList] ∧ ∀ j (h : j < s.size), i < j → s[j] ≠ 47) := by
  rcases Lib.lastIndexByte_spec s 47 with ⟨h, hn⟩ | ⟨i, hi, he, hc, hn⟩
  · have hno : ∀ j (h : j < s.size), s[j] ≠ 47 := fun j hj e => hn j hj (by rw [ba_get s j hj, e]; rfl)
    refine .inl ⟨h, ?_, hno⟩
    refine splitL_none _ fun c hc e => ?_
    obtain ⟨j, hj, hj2⟩ := List.getElem_of_mem hc
    have hjs : j < s.size := by simpa using hj
    exact hno j hjs (by rw [← e, ← hj2]; rfl)
  · have hno : ∀ j (h : j < s.size), i < j → s[j] ≠ 47 := fun j hj hij e => hn j hij hj (by rw [ba_get s j hj, e]; rfl)
    have h47 : s[i] = 47 := by
      rw [ba_get s i hi] at hc
      apply UInt8.toNat_inj.1
      have : s[i].toNat = 47 := by omega
      rw [this]; rfl
    refine .inr ⟨i, hi, he, h47, ?_, hno⟩
    have e1 : (s.extract 0 i).data.toList = s.data.toList.take i := Lib.extract_from_zero s i
    have e2 : (s.extract (i + 1) s.size).data.toList = s.data.toList.drop (i + 1) := Lib.extract_to_end s (i + 1)
    have e3 : s.data.toList = s.data.toList.take i ++ 47 :: s.data.toList.drop (i + 1) := by
      have h2 : s.data.toList.drop i = s[i] :: s.data.toList.drop (i + 1) := List.drop_eq_getElem_cons (by simpa using hi)
      rw [← h47, ← h2, List.take_append_drop]
    unfold partsR
    rw [e3, splitL_append, e1, e2]
    congr 1
    refine (splitL_none _ fun c hc e => ?_)
    obtain ⟨j, hj, hj2⟩ := List.getElem_of_mem hc
    rw [List.getElem_drop] at hj2
    have hjs : i + 1 + j < s.size := by simp at hj; have : s.data.size = s.size := rfl; omega
    exact hno (i + 1 + j) hjs (by omega) (by rw [← e, ← hj2]; rfl)
theorem last_range (s : ByteArray) : -1 ≤ Lib.lastIndexByte s 47 ∧ Lib.lastIndexByte s 47 < s.size := by
  rcases last_cases s with ⟨h, _⟩ | ⟨i, h, e, _⟩ <;> omega
theorem partsP_base (s : ByteArray) : partsP s = (partsP s).take ((partsP s).length - 1) ++ [baseP s] := by
  rcases last_cases s with ⟨h, hp, _⟩ | ⟨i, h, e, _, hp, _⟩
  · unfold partsP baseP
    rw [hp, h]
    simp only [List.map_cons, List.map_nil, List.length_cons, List.length_nil]
    rw [strB_self, show ((-1 : Int) + 1).toNat = 0 from rfl, ext_zero]
    rfl
  · unfold partsP baseP
    rw [hp, e, List.map_append, List.map_cons, List.map_nil, strB_self]
    rw [show ((i : Int) + 1).toNat = i + 1 by omega]
    simp
theorem partsP_last (s : ByteArray) : (partsP s)[(partsP s).length - 1]? = some (baseP s) := by
  have h1 := partsP_ne s
  have h2 := partsP_base s
  generalize baseP s = b at *
  generalize partsP s = l at *
  rw [h2]
  have e : (l.take (l.length - 1) ++ [b]).length - 1 = (l.take (l.length - 1)).length := by simp
  rw [e, List.getElem?_append_right (Nat.le_refl _)]
  simp
theorem ext_00 (s : ByteArray) : s.extract 0 0 = ⟨#[]⟩ := by
  apply ByteArray.ext
  simp
theorem splitL_size : ∀ (l : List UInt8) (p : List UInt8), p ∈ splitL l → p.length ≤ l.length
  | [], p, h => by simp [splitL] at h; simp [h]
  | c :: r, p, h => by
    by_cases hc : c = 47
    · rw [hc, splitL_slash] at h
      rcases List.mem_cons.1 h with rfl | h
      · simp
      · have := splitL_size r p h; simp; omega
    · rw [splitL_other hc] at h
      have ih := splitL_size r
      cases hs : splitL r with
      | nil => exact absurd hs (splitL_ne r)
      | cons x t =>
        rw [hs] at h ih
        simp only [headApp, List.mem_cons] at h
        rcases h with rfl | h
        · have := ih x (by simp); simp; omega
        · have := ih p (by simp [h]); simp; omega
theorem part_size (s x : ByteArray) (h : x ∈ partsP s) : x.size ≤ s.size := by
  unfold partsP partsR at h
  obtain ⟨l, hl, rfl⟩ := List.mem_map.1 h
  have := splitL_size _ l hl
  show l.toArray.size ≤ s.data.size
  simpa using this

set_option maxRecDepth 100000 in
set_option maxHeartbeats 400000 in
theorem pparent_any (s : ByteArray) (w : World) (hs : s.size ≤ 1000000) : Calls Tryd.prog 20 #[.string s] w fun e w' => e = .returned (.string (parentP s)) ∧ w = w' := by
  have H1 := Lib.hid (Tryd.strings_LastIndexByte s 47 (by omega) w)
  have hr := last_range s
  have HP := Lib.hid (show parentP s = s.extract 0 (Lib.lastIndexByte s 47).toNat from rfl)
  generalize Lib.lastIndexByte s 47 = q at *
  have HQ := Lib.hid (show (max q 0).toNat = q.toNat by omega)
  go_enter Tryd.func20, Tryd.ntmps20
  go_wp2_with fail
  refine H1.out.mono ?_
  rintro e w1 ⟨rfl, rfl⟩
  go_wp2
  go_ret
  exact ⟨ret_str (by rw [HP.out, HQ.out]), rfl⟩
set_option maxRecDepth 100000 in
set_option maxHeartbeats 800000 in
theorem refparent_any (s : ByteArray) (w : World) (hs : s.size ≤ 1000000) : Calls Tryd.prog 86 #[.string s] w fun e w' => e = .returned (.string (parentP s)) ∧ w = w' := by
  go_enter Tryd.func86, Tryd.ntmps86
  go_wp2
  go_loop [3] (fun t => ∃ k : Nat, k ≤ s.size ∧ t = .int .i64 ((k : Int) - 1) ∧ Lib.lastIdx s 47 k = Lib.lastIndexByte s 47) (fun t => (intOf t + 1).toNat)
  case atStart => exact ⟨s.size, Nat.le_refl _, rfl, rfl⟩
  case round =>
    obtain ⟨k, hk, rfl, hn⟩ := hrel
    have HN := Lib.hid hn
    clear hn
    cases k with
    | zero =>
      have hz : ¬ (0 : Int) ≤ ((0 : Nat) : Int) - 1 := by omega
      go_wp2
      go_ret
      exact ⟨ret_str (by unfold parentP; rw [← HN.out, show (Lib.lastIdx s 47 0).toNat = 0 from rfl, ext_00]), rfl⟩
    | succ k =>
      have hkl : k < s.size := by omega
      have ek : ((k + 1 : Nat) : Int) - 1 = (k : Int) := by omega
      rw [ek]
      clear ek
      have hk0 : (0 : Int) ≤ (k : Int) := by omega
      by_cases h : s[k] = 47
      · have hq : (s[k].toNat : Int) = 47 := by rw [h]; rfl
        have HF := Lib.hid (Lib.lastIdx_hit s 47 k (by rw [ba_get s k hkl]; exact hq))
        go_wp2
        go_ret
        exact ⟨ret_str (by unfold parentP; rw [← HN.out, HF.out]; simp), rfl⟩
      · have hq : ¬ (s[k].toNat : Int) = 47 := by
          intro e
          apply h
          apply UInt8.toNat_inj.1
          have : s[k].toNat = 47 := by omega
          rw [this]; rfl
        have HF := Lib.hid (Lib.lastIdx_miss s 47 k (by rw [ba_get s k hkl]; exact hq))
        go_wp2
        go_round
        case rel => exact ⟨k, by omega, rfl, by rw [← HF.out]; exact HN.out⟩
        case measure => simp [intOf]

set_option maxRecDepth 100000 in
set_option maxHeartbeats 1600000 in
theorem refis_any (s : ByteArray) (w : World) (hs : s.size ≤ 1000000) : Calls Tryd.prog 113 #[.string s] w fun e w' => e = .returned (.bool (isPath s)) ∧ Below w.heap.size w w' := by
  have hla := partsP_len s
  have HIS := Lib.hid (isPath_parts s)
  have HNM := Lib.hid fun (x : ByteArray) W (h : x ∈ partsP s) => refname_any x W (by
    have := part_size s x h; omega)
  have H1 := Lib.hid (parts_any s w hs)
  go_enter Tryd.func113, Tryd.ntmps113
  go_wp2_with fail
  refine H1.out.mono ?_
  rintro e w1 ⟨ga, ca, rfl, ho1, hb1⟩
  obtain ⟨hr1, hn1⟩ := parts_row ho1
  have HX := Lib.hid hr1
  rw [hn1]
  generalize partsP s = xs at *
  clear hr1 hn1 ho1 H1
  by_cases hz : s.size ≤ 200
  · by_cases hk : xs.length ≤ 8
    · have HI := Lib.hid (show isPath s = xs.all nameOk by rw [HIS.out, decide_eq_true hz, decide_eq_true hk]; simp)
      have h1 : ¬ (200 : Int) < (s.size : Int) := by omega
      have h2 : ¬ (8 : Int) < (xs.length : Int) := by omega
      go_wp2
      go_loop [18] (fun t => ∃ k : Nat, t = .int .i64 (k : Nat) ∧ k ≤ xs.length ∧ (xs.drop k).all nameOk = xs.all nameOk) (fun t => xs.length - (intOf t).toNat)
      case atStart => exact ⟨0, rfl, Nat.zero_le _, rfl⟩
      case round =>
        obtain ⟨k, rfl, hkx, hn⟩ := hrel
        have HN := Lib.hid hn
        clear hn
        by_cases hkl : k < xs.length
        · have hcx := HX.out k xs[k] (List.getElem?_eq_getElem hkl)
          have HDX := Lib.hid (drop_some hkl)
          have HC := Lib.hid fun W => HNM.out xs[k] W (List.getElem_mem hkl)
          generalize xs[k] = x at *
          have HA := Lib.hid (show (x :: xs.drop (k + 1)).all nameOk = (nameOk x && (xs.drop (k + 1)).all nameOk) by simp)
          go_wp2_with fail
          refine (HC.out _).mono ?_
          rintro e w4 ⟨rfl, rfl⟩
          cases hok : nameOk x with
          | true =>
            have HO := Lib.hid hok
            clear hok
            go_wp2
            go_round
            case rel => exact ⟨k + 1, by go_num, by omega, by rw [← HN.out, HDX.out, HA.out, HO.out]; rfl⟩
            case measure => simp [intOf]; omega
          | false =>
            have HO := Lib.hid hok
            clear hok
            go_wp2
            go_ret
            exact ⟨ret_bool (by rw [HI.out, ← HN.out, HDX.out, HA.out, HO.out]; rfl), hb1⟩
        · have HF := Lib.hid (show xs.drop k = [] from List.drop_of_length_le (by omega))
          go_wp2
          go_ret
          exact ⟨ret_bool (by rw [HI.out, ← HN.out, HF.out]; rfl), hb1⟩
    · have HI := Lib.hid (show isPath s = false by rw [HIS.out, decide_eq_false hk]; simp)
      have h1 : ¬ (200 : Int) < (s.size : Int) := by omega
      have h2 : (8 : Int) < (xs.length : Int) := by omega
      go_wp2
      go_ret
      exact ⟨ret_bool HI.out.symm, hb1⟩
  · have HI := Lib.hid (show isPath s = false by rw [HIS.out, decide_eq_false hz]; simp)
    have h1 : (200 : Int) < (s.size : Int) := by omega
    go_wp2
    go_ret
    exact ⟨ret_bool HI.out.symm, hb1⟩
end Go.Proofs.YtaoejgnfoecpfaaDoor
