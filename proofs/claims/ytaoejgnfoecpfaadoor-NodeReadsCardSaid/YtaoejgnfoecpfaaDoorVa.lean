/- Numbers in groups of seven bits: walked. -/
import Derived.Test.YtaoejgnfoecpfaaDoorVp
namespace Go.Proofs.YtaoejgnfoecpfaaDoor
open Go.RowKit

theorem infoB : (Tryd.prog.info? 5).map (fun i => (i.zero, i.size, i.bytes)) = some (some (.int .u8 0), 1, 1) := by kernel_rfl
theorem or128 : ∀ n : Nat, n < 256 → bits BinOp.or IntKind.u8 (n : Int) 128 = ((n % 128 + 128 : Nat) : Int) := by decide +kernel
set_option maxRecDepth 100000 in
set_option maxHeartbeats 800000 in
theorem var_any (x : Nat) (w : World) (hx : x < 18446744073709551616) :
    Calls Tryd.prog 98 #[.int .u64 x] w fun e w' => e = .returned (.string ⟨(varL x).toArray⟩) ∧ Below w.heap.size w w' := by
  have h0 : x < 128 ^ (10 + 1) := Nat.lt_trans hx (by decide)
  have HX := Lib.hid hx
  clear hx
  go_enter Tryd.func98, Tryd.ntmps98
  go_wp2
  go_loopw [0, 3] (fun y v wr => ∃ (z f : Nat) (l : List UInt8) (vv : Value), vv = v ∧ y = .int .u64 (z : Nat) ∧ z ≤ x ∧ wr.ownsRow w.heap.size 5 1 v l.length (bytesV l) ∧ Below w.heap.size w wr ∧ l ++ varF f z = varL x ∧ l.length + f ≤ 10 ∧ z < 128 ^ (f + 1)) (fun y _ _ => (intOf y).toNat)
  case atStart => exact ⟨x, 10, [], _, rfl, rfl, Nat.le_refl _, ⟨rfl, Or.inl ⟨rfl, rfl⟩⟩, Below.refl _ _, rfl, by simp, h0⟩
  case round =>
    obtain ⟨z, f, l, v, rfl, rfl, hzx, hown, hb, hn, hlf, hz⟩ := hrel
    have HN := Lib.hid hn
    have HZ := Lib.hid hz
    have HZLE := Lib.hid hzx
    have HZX := Lib.hid (Nat.lt_of_le_of_lt hzx HX.out)
    have hsz := hb.size
    have hll : l.length ≤ 10 := by omega
    clear hn hz hzx
    by_cases h : z < 128
    · have h1 : ¬ (128 : Int) ≤ (z : Int) := by omega
      have hw8 : IntKind.u8.wrap (z : Int) = (z : Int) := IntWalk.u8_in _ (by omega)
      have hz8 := u8_small (x := z) (by omega)
      have HB1 := Lib.hid (show bytesV (l ++ [UInt8.ofNat z]) = bytesV l ++ [.int .u8 (z : Int)] by rw [bytesV_app]; simp only [bytesV, List.map_cons, List.map_nil]; rw [hz8])
      have HV := Lib.hid (show l ++ [UInt8.ofNat z] = varL x by rw [← varF_small (f := f) h]; exact HN.out)
      clear h hz8
      go_wp2_with (at_builtin; refine wpList_app1 rfl _ _ 46 rfl w.heap.size 5 Tryd.underlying46 infoB rfl (by decide) _ _ _ rfl hown _ rfl rfl (oneCell_int _ _) ?_ ?_ ?_ ?_; omega; omega; omega; intro g1 cap1 w5 hown' hgr hbw _; have hcv := run_convert_own (l := l ++ [UInt8.ofNat z]) 46 9 5 Tryd.underlying46 Tryd.underlying5 Tryd.underlying9 (by rw [HB1.out]; exact hown'))
      go_ret
      exact ⟨ret_str (by rw [HV.out]), hb.trans hbw⟩
    · have h1 : (128 : Int) ≤ (z : Int) := by omega
      obtain ⟨f, rfl⟩ : ∃ g, f = g + 1 := by
        cases f with
        | zero => have := HZ.out; simp at this; omega
        | succ g => exact ⟨g, rfl⟩
      have hw8 : IntKind.u8.wrap (z : Int) = (z : Int) % 256 := by rw [IntKind.wrap_u8]
      have hor : bits BinOp.or IntKind.u8 ((z : Int) % 256) 128 = (z : Int) % 128 + 128 := by
        have := or128 (z % 256) (by omega)
        rw [show ((z % 256 : Nat) : Int) = (z : Int) % 256 by omega] at this
        omega
      have hz8 := u8_small (x := z % 128 + 128) (by omega)
      have HB1 := Lib.hid (show bytesV (l ++ [UInt8.ofNat (z % 128 + 128)]) = bytesV l ++ [.int .u8 ((z : Int) % 128 + 128)] by rw [bytesV_app]; simp only [bytesV, List.map_cons, List.map_nil]; rw [hz8, show ((z % 128 + 128 : Nat) : Int) = (z : Int) % 128 + 128 by omega])
      have HV := Lib.hid (show (l ++ [UInt8.ofNat (z % 128 + 128)]) ++ varF f (z / 128) = varL x by rw [← HN.out, varF_great h, List.append_assoc]; rfl)
      clear h hz8
      go_wp2_with (at_builtin; refine wpList_app1 rfl _ _ 46 rfl w.heap.size 5 Tryd.underlying46 infoB rfl (by decide) _ _ _ rfl hown _ rfl rfl (oneCell_int _ _) ?_ ?_ ?_ ?_; omega; omega; omega; intro g1 cap1 w5 hown' hgr hbw _)
      go_roundw
      case rel =>
        refine ⟨z / 128, f, l ++ [UInt8.ofNat (z % 128 + 128)], _, rfl, ?_, ?_, ?_, hb.trans hbw, HV.out, ?_, ?_⟩
        · rw [show ((z / 128 : Nat) : Int) = (z : Int) / 128 by omega]
        · exact Nat.le_trans (Nat.div_le_self _ _) HZLE.out
        · rw [HB1.out]; simpa using hown'
        · simp; omega
        · rw [Nat.div_lt_iff_lt_mul (by decide), Nat.mul_comm, ← pow128]; exact HZ.out
      case measure => simp [intOf]; omega

theorem ret_2 {k1 k2 : IntKind} {a b c d : Int} (h1 : a = c) (h2 : b = d) : Ending.returned (.tuple #[.int k1 a, .int k2 b]) = .returned (.tuple #[.int k1 c, .int k2 d]) := by rw [h1, h2]
theorem acc_or (y c k : Nat) (hy : y < 128 ^ k) (hc : c < 256) (hk : k ≤ 9) (h9 : k = 9 → c ≤ 1) : bits BinOp.or IntKind.u64 (y : Int) (IntKind.u64.wrap (bits BinOp.and IntKind.u64 (c : Int) 127 * 2 ^ (7 * k))) = ((y + c % 128 * 128 ^ k : Nat) : Int) := by
  have e1 : bits BinOp.and IntKind.u64 (c : Int) 127 = ((c % 128 : Nat) : Int) := by
    have := bits_and_u64_nat c 127 (by omega) (by decide)
    rw [show ((127 : Nat) : Int) = 127 from rfl] at this
    rw [this, show (127 : Nat) = 2 ^ 7 - 1 from rfl, Nat.and_two_pow_sub_one_eq_mod]
  have e2 : (2 : Nat) ^ (7 * k) = 128 ^ k := by rw [Nat.pow_mul]
  have e3 : ((c % 128 : Nat) : Int) * 2 ^ (7 * k) = ((c % 128 * 128 ^ k : Nat) : Int) := by
    rw [← e2]; simp
  have hp : 128 ^ k ≤ 128 ^ 9 := Nat.pow_le_pow_right (by decide) hk
  have hlt : c % 128 * 128 ^ k < 18446744073709551616 := by
    by_cases h : k = 9
    · have := h9 h
      have : c % 128 * 128 ^ k ≤ 1 * 128 ^ 9 := Nat.mul_le_mul (by omega) hp
      exact Nat.lt_of_le_of_lt this (by decide)
    · have h8 : 128 ^ k ≤ 128 ^ 8 := Nat.pow_le_pow_right (by decide) (by omega)
      have : c % 128 * 128 ^ k ≤ 127 * 128 ^ 8 := Nat.mul_le_mul (by omega) h8
      exact Nat.lt_of_le_of_lt this (by decide)
  have hy2 : y < 18446744073709551616 := Nat.lt_trans (Nat.lt_of_lt_of_le hy hp) (by decide)
  rw [e1, e3, IntKind.wrap_u64, Int.emod_eq_of_lt (by omega) (by omega), bits_or_u64_nat _ _ hy2 hlt]
  congr 1
  have := Nat.two_pow_add_eq_or_of_lt (i := 7 * k) (b := y) (by rw [e2]; exact hy) (c % 128)
  rw [e2, Nat.mul_comm] at this
  rw [Nat.or_comm, ← this, Nat.add_comm]
theorem acc_lt (y c k : Nat) (hy : y < 128 ^ k) : y + c % 128 * 128 ^ k < 128 ^ (k + 1) := by
  have : c % 128 * 128 ^ k ≤ 127 * 128 ^ k := Nat.mul_le_mul_right _ (by omega)
  rw [pow128]
  omega

set_option maxRecDepth 100000 in
set_option maxHeartbeats 1600000 in
theorem unvar_any (s : ByteArray) (w : World) (_hs : s.size ≤ 1099511627776) :
    Calls Tryd.prog 99 #[.string s] w fun e w' => e = .returned (.tuple #[.int .u64 (unvarL s.data.toList).1, .int .i64 (unvarL s.data.toList).2]) ∧ w = w' := by
  go_enter Tryd.func99, Tryd.ntmps99
  go_wp2
  go_loop [4, 5] (fun a i => ∃ (k f y : Nat), a = .int .u64 (y : Nat) ∧ i = .int .i64 (k : Nat) ∧ k + f = 10 ∧ k ≤ s.size ∧ y < 128 ^ k ∧ unv f k y (s.data.toList.drop k) = unvarL s.data.toList) (fun _ i => 10 - (intOf i).toNat)
  case atStart => exact ⟨0, 10, 0, rfl, rfl, rfl, Nat.zero_le _, by decide, by rw [List.drop_zero]; rfl⟩
  case round =>
    obtain ⟨k, f, y, rfl, rfl, hkf, hk, hy, hn⟩ := hrel
    have HN := Lib.hid hn
    have HY := Lib.hid hy
    clear hn hy
    by_cases hlt : k < s.size
    · by_cases h10 : k < 10
      · obtain ⟨f, rfl⟩ : ∃ g, f = g + 1 := ⟨f - 1, by omega⟩
        have HDR := Lib.hid (show s.data.toList.drop k = s[k] :: s.data.toList.drop (k + 1) from List.drop_eq_getElem_cons (by simpa using hlt))
        have hc := s[k].toNat_lt
        have HU := Lib.hid (show unv (f + 1) k y (s[k] :: s.data.toList.drop (k + 1)) = if (k = 9 ∧ 1 < s[k].toNat) ∨ (0 < k ∧ s[k].toNat = 0) then (0, 0) else if s[k].toNat < 128 then (y + s[k].toNat * 128 ^ k, k + 1) else unv f (k + 1) (y + s[k].toNat % 128 * 128 ^ k) (s.data.toList.drop (k + 1)) from rfl)
        have hl0 : (0 : Int) ≤ (k : Int) := by omega
        have hl1 : (k : Int) < (s.size : Int) := by omega
        by_cases hA : k = 9 ∧ 1 < s[k].toNat
        · have HF := Lib.hid (show unvarL s.data.toList = (0, 0) by rw [← HN.out, HDR.out, HU.out, if_pos (Or.inl hA)])
          have q1 : ((k : Int) == 9) = true := by simp; omega
          have q2 : (1 : Int) < (s[k].toNat : Int) := by omega
          clear hA
          go_wp2
          go_ret2
          exact ⟨by rw [HF.out]; rfl, rfl⟩
        · by_cases hB : 0 < k ∧ s[k].toNat = 0
          · have HF := Lib.hid (show unvarL s.data.toList = (0, 0) by rw [← HN.out, HDR.out, HU.out, if_pos (Or.inr hB)])
            have q3 : (0 : Int) < (k : Int) := by omega
            have q4 : ((s[k].toNat : Int) == 0) = true := by simp; omega
            have q2 : ¬ (1 : Int) < (s[k].toNat : Int) := by omega
            have q2' : decide ((1 : Int) < (s[k].toNat : Int)) = false := decide_eq_false q2
            clear hA hB
            cases q1 : ((k : Int) == 9)
            all_goals
              go_wp2
              go_ret2
              exact ⟨by rw [HF.out]; rfl, rfl⟩
          · have HACC := Lib.hid (fun (h9 : k ≤ 9) (h1 : k = 9 → s[k].toNat ≤ 1) => acc_or y s[k].toNat k HY.out hc h9 h1)
            by_cases h128 : s[k].toNat < 128
            · have HF := Lib.hid (show unvarL s.data.toList = (y + s[k].toNat * 128 ^ k, k + 1) by rw [← HN.out, HDR.out, HU.out, if_neg (by omega), if_pos h128])
              have HM := Lib.hid (show s[k].toNat % 128 = s[k].toNat from Nat.mod_eq_of_lt h128)
              have q5 : (s[k].toNat : Int) < 128 := by omega
              have HB' := Lib.hid hB
              have HA' := Lib.hid hA
              clear hA hB
              rcases (by omega : k = 0 ∨ (0 < k ∧ k < 9) ∨ k = 9) with g | ⟨g1, g2⟩ | g
              · have HG := Lib.hid g
                have q3 : ¬ (0 : Int) < (k : Int) := by omega
                have q1 : ((k : Int) == 9) = false := by simp; omega
                have q3' : decide ((0 : Int) < (k : Int)) = false := decide_eq_false q3
                clear g
                go_wp2
                go_ret2
                exact ⟨ret_2 (by rw [HF.out]; have := HACC.out (by have := HG.out; omega) (by have := HG.out; omega); rw [HM.out] at this; have h0 := HG.out; subst h0; simpa using this) (by rw [HF.out]; simp), rfl⟩
              · have q1 : ((k : Int) == 9) = false := by simp; omega
                have q3 : (0 : Int) < (k : Int) := by omega
                have q4 : ((s[k].toNat : Int) == 0) = false := by have := HB'.out; simp; omega
                go_wp2
                go_ret2
                exact ⟨ret_2 (by rw [HF.out]; have := HACC.out (by omega) (by omega); rw [HM.out] at this; exact this) (by rw [HF.out]; simp), rfl⟩
              · have HG := Lib.hid g
                have q1 : ((k : Int) == 9) = true := by simp; omega
                have q3 : (0 : Int) < (k : Int) := by omega
                have q2 : decide ((1 : Int) < (s[k].toNat : Int)) = false := decide_eq_false (by have := HA'.out; omega)
                have q4 : ((s[k].toNat : Int) == 0) = false := by have := HB'.out; simp; omega
                clear g
                go_wp2
                go_ret2
                exact ⟨ret_2 (by rw [HF.out]; have := HACC.out (by have := HG.out; omega) (by have := HA'.out; have := HG.out; omega); rw [HM.out] at this; have h0 := HG.out; subst h0; simpa using this) (by rw [HF.out]; simp), rfl⟩
            · have h9 : k < 9 := by omega
              have HF := Lib.hid (show unv f (k + 1) (y + s[k].toNat % 128 * 128 ^ k) (s.data.toList.drop (k + 1)) = unvarL s.data.toList by rw [← HN.out, HDR.out, HU.out, if_neg (by omega), if_neg h128])
              have HL := Lib.hid (acc_lt y s[k].toNat k HY.out)
              have HAC := Lib.hid (HACC.out (by omega) (by omega))
              have q1 : ((k : Int) == 9) = false := by simp; omega
              have q4 : ((s[k].toNat : Int) == 0) = false := by simp; omega
              have q5 : ¬ (s[k].toNat : Int) < 128 := by omega
              clear hA hB HACC
              go_wp2
              all_goals
                go_round
                case rel => exact ⟨k + 1, f, _, by rw [HAC.out], by go_num, by omega, by omega, HL.out, HF.out⟩
                case measure => simp [intOf]; omega
      · have HF := Lib.hid (show unvarL s.data.toList = (0, 0) by rw [← HN.out, show f = 0 by omega]; rfl)
        go_wp2
        go_ret2
        exact ⟨ret_2 (by rw [HF.out]; rfl) (by rw [HF.out]; rfl), rfl⟩
    · have HF := Lib.hid (show unvarL s.data.toList = (0, 0) by
        rw [← HN.out, List.drop_of_length_le (by simp; omega)]
        cases f <;> rfl)
      go_wp2
      go_ret2
      exact ⟨ret_2 (by rw [HF.out]; rfl) (by rw [HF.out]; rfl), rfl⟩
end Go.Proofs.YtaoejgnfoecpfaaDoor
