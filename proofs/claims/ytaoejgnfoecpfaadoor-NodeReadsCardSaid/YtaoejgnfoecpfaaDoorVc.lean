/- Numbers in groups of seven bits: the document's reading, walked. -/
import Derived.Test.YtaoejgnfoecpfaaDoorVb
import Derived.Deep.RegionWith
import Derived.Lib.Split
namespace Go.Proofs.YtaoejgnfoecpfaaDoor
open Go.RowKit

theorem sum_step (s : ByteArray) (k : Nat) (h : k < s.size) : sumV (s.data.toList.take (k + 1)) = sumV (s.data.toList.take k) + s[k].toNat % 128 * 128 ^ k := by
  have hs : s.data.toList.length = s.size := by simp
  have hl : (s.data.toList.take k).length = k := by rw [List.length_take]; omega
  rw [ba_take s k h, sumV_snoc, hl]
theorem unvar_zero {l : List UInt8} (h : (unvarL l).2 = 0) : unvarL l = (0, 0) := by
  have key : ∀ f i a (l : List UInt8), (unv f i a l).2 = 0 → unv f i a l = (0, 0) := by
    intro f
    induction f with
    | zero => intro i a l _; rfl
    | succ f ih =>
      intro i a l h
      cases l with
      | nil => rfl
      | cons c r =>
        simp only [unv] at h ⊢
        split
        · rfl
        · next g =>
          rw [if_neg g] at h
          split
          · next hc => rw [if_pos hc] at h; simp at h
          · next hc => rw [if_neg hc] at h; exact ih _ _ _ h
  exact key _ _ _ _ h
theorem ref_sum (S P c M : Nat) : (S % M + (c % 128 * (P % M)) % M) % M = (S + c % 128 * P) % M := by
  rw [← Nat.add_mod, Nat.add_mod S, Nat.mul_mod, Nat.mod_mod, ← Nat.mul_mod, ← Nat.add_mod]
theorem ref_step (S P c X U : Nat) (hX : S % 18446744073709551616 = X) (hU : P % 18446744073709551616 = U) : IntKind.u64.wrap ((X : Int) + IntKind.u64.wrap ((c : Int) % 128 * (U : Int))) = (((S + c % 128 * P) % 18446744073709551616 : Nat) : Int) := by
  rw [IntKind.wrap_u64, IntKind.wrap_u64, ← ref_sum, hX, hU]
  simp
theorem ref_unit (P U : Nat) (hU : P % 18446744073709551616 = U) : IntKind.u64.wrap ((U : Int) * 128) = ((128 * P % 18446744073709551616 : Nat) : Int) := by
  rw [IntKind.wrap_u64]
  subst hU
  omega
set_option maxRecDepth 100000 in
set_option maxHeartbeats 1600000 in
theorem refunvar_any (s : ByteArray) (w : World) (hs : s.size ≤ 1099511627776) :
    Calls Tryd.prog 105 #[.string s] w fun e w' => e = .returned (.tuple #[.int .u64 (unvarL s.data.toList).1, .int .i64 (unvarL s.data.toList).2]) ∧ Below w.heap.size w w' := by
  go_enter Tryd.func105, Tryd.ntmps105
  go_wp2
  go_loopw [4] (fun i wr => ∃ n : Nat, i = .int .i64 (n : Nat) ∧ 1 ≤ n ∧ n ≤ 11 ∧ Below w.heap.size w wr ∧ ((unvarL s.data.toList).2 = 0 ∨ n ≤ (unvarL s.data.toList).2)) (fun i _ => 11 - (intOf i).toNat)
  case atStart => exact ⟨1, rfl, Nat.le_refl _, by decide, Below.refl _ _, by omega⟩
  case round =>
    obtain ⟨n, rfl, hn1, hn2, hb, hn⟩ := hrel
    have HN := Lib.hid hn
    have HB := Lib.hid hb
    clear hn hb
    by_cases hc : n ≤ 10 ∧ n ≤ s.size
    · obtain ⟨h10, hsz⟩ := hc
      go_wp2
      go_loop [5, 6, 7] (fun x u i => ∃ k : Nat, k ≤ n ∧ i = .int .i64 (k : Nat) ∧ x = .int .u64 ((sumV (s.data.toList.take k) % 18446744073709551616 : Nat) : Int) ∧ u = .int .u64 ((128 ^ k % 18446744073709551616 : Nat) : Int)) (fun _ _ i => n - (intOf i).toNat)
      case atStart => exact ⟨0, Nat.zero_le _, rfl, rfl, rfl⟩
      case round =>
        obtain ⟨k, hk, rfl, rfl, rfl⟩ := hrel
        by_cases hkn : k < n
        · have hlt : k < s.size := by omega
          have HS := Lib.hid (sum_step s k hlt)
          have hc := s[k].toNat_lt
          generalize hX : sumV (s.data.toList.take k) % 18446744073709551616 = X
          generalize hU : 128 ^ k % 18446744073709551616 = U
          have HXU := Lib.hid (And.intro hX hU)
          clear hX hU
          go_wp2
          go_round
          case rel =>
            obtain ⟨hX, hU⟩ := HXU.out
            refine ⟨k + 1, by omega, by go_num, ?_, ?_⟩
            · rw [ref_step _ _ _ _ _ hX hU, HS.out]
            · rw [ref_unit _ _ hU, pow128]
          case measure => simp [intOf]; omega
        · obtain rfl : k = n := by omega
          have hlt : sumV (s.data.toList.take k) % 18446744073709551616 < 18446744073709551616 := Nat.mod_lt _ (by decide)
          have HMISS := Lib.hid (fun h => try_miss (l := s.data.toList) (n := k) h (by omega))
          have HHIT := Lib.hid (fun h => try_hit (l := s.data.toList) (n := k) (y := sumV (s.data.toList.take k) % 18446744073709551616) hlt h (by simp; exact hsz))
          have HEXT := Lib.hid (show (s.extract 0 k).data.toList = s.data.toList.take k from Lib.extract_from_zero s k)
          generalize sumV (s.data.toList.take k) % 18446744073709551616 = X at *
          have HLT := Lib.hid hlt
          clear hlt
          have HR := Lib.hid fun W => refvar_any X W HLT.out
          have hk0 : (0 : Int) ≤ (k : Int) := by omega
          have hk1 : (k : Int) ≤ (s.size : Int) := by omega
          cases hq : (varL X == (s.extract 0 k).toList) with
          | true =>
            have HF := Lib.hid (show unvarL s.data.toList = (X, k) by
              refine HHIT.out ?_
              have := eq_of_beq hq
              rw [ba_toList, HEXT.out] at this
              exact this)
            go_wp2
            go_region_with (go_at_call 106; refine (HR.out _).mono ?_; rintro e w4 ⟨rfl, hb4⟩)
            all_goals
              go_wp2
              go_ret2
              exact ⟨ret_2 (by rw [HF.out]) (by rw [HF.out]), HB.out.drew.trans (hb4.mono HB.out.drew.size)⟩
          | false =>
            have HF := Lib.hid (show (unvarL s.data.toList).2 ≠ k by
              refine HMISS.out fun e => ?_
              rw [ba_toList, HEXT.out, e] at hq
              simp at hq)
            go_wp2
            go_region_with (go_at_call 106; refine (HR.out _).mono ?_; rintro e w4 ⟨rfl, hb4⟩)
            all_goals
              go_wp2
              go_roundw
              case rel => exact ⟨k + 1, by go_num, by omega, by omega, HB.out.drew.trans (hb4.mono HB.out.drew.size), by have := HN.out; have := HF.out; omega⟩
              case measure => simp [intOf]; omega
    · have HF := Lib.hid (show unvarL s.data.toList = (0, 0) by
        have h1 := unvar_le s.data.toList
        have h2 : s.data.toList.length = s.size := by simp
        exact unvar_zero (by have := HN.out; omega))
      rcases (by omega : ¬ n ≤ 10 ∨ (n ≤ 10 ∧ ¬ n ≤ s.size)) with h1 | ⟨h1, h2⟩
      all_goals
        clear hc
        go_wp2
        go_ret2
        exact ⟨ret_2 (by rw [HF.out]; rfl) (by rw [HF.out]; rfl), HB.out⟩
end Go.Proofs.YtaoejgnfoecpfaaDoor
