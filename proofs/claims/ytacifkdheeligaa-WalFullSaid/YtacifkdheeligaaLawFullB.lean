/- WalFull where the record does not fit. -/
import Derived.Test.YtacifkdheeligaaLawFull
namespace Go.Proofs.Ytacifkdheeligaa
open Go.RowKit Go.Maps

set_option maxHeartbeats 3200000 in
set_option maxRecDepth 100000 in
theorem full_not (n size room : Nat) (w : World) (hn : n ≤ 210) (hsz : size ≤ 5001) (hm : n * size ≤ 20000) (hr : room ≤ 3000) (h5 : size ≤ 5000) (hfit : ¬ size + 8 ≤ room) :
    Calls Try.prog 4 #[.int .i64 n, .int .i64 size, .int .i64 room] w fun e w' => e = .returned (.bool true) ∧ Below w.heap.size w w' := by
  have hm1 : 0 ≤ (n : Int) * (size : Int) := Int.mul_nonneg (by omega) (by omega)
  have hm2 : (n : Int) * (size : Int) ≤ 20000 := by rw [← Int.natCast_mul]; omega
  have HM := Lib.hid hm
  clear hm
  have HS := Lib.hid (start_any w)
  go_enter Try.func4, Try.ntmps4
  go_wp2_with fail
  refine HS.out.mono ?_
  rintro e w1 ⟨b, L, lb, v, rfl, hB1, hb1, hf1⟩
  have HI1 := Lib.hid (show FullInv w b lb size 0 w1 from ⟨L, v, by
    have e0 : taken size 0 = 0 := by unfold taken; split <;> simp
    have e1 : fullL size 0 = ⟨#[]⟩ := by unfold fullL; rw [e0]; rfl
    rw [e0, e1]; exact hB1, hb1, hf1⟩)
  clear hB1 hb1 hf1
  go_wp2
  go_loopw [9] (fun i wr => ∃ k : Nat, k ≤ n ∧ i = .int .i64 k ∧ FullInv w b lb size k wr) (fun i _ => n - (intOf i).toNat)
  case atStart => exact ⟨0, Nat.zero_le _, rfl, HI1.out⟩
  case round =>
    obtain ⟨k, hk, rfl, hI⟩ := hrel
    have HI := Lib.hid hI
    clear hI
    by_cases hlt : k < n
    · obtain ⟨L, v, hB, hb, hf⟩ := HI.out
      obtain ⟨wm, hmk, hbm, hcv⟩ := make_zeros wr size (by omega)
      have hBm := hB.below hbm
      have hbm2 : Below w.heap.size w wm := hb.trans (hbm.mono hb.size)
      have hff : ∀ i, bothFoot b L lb v i → w.heap.size ≤ i := hf
      have HB := Lib.hid hBm
      have HFF := Lib.hid hff
      clear hB hBm hf hff
      by_cases hbig : 5000 < size ∨ 200 ≤ k
      · obtain ⟨ht1, ht2⟩ := full_stop hbig
        have HAd := Lib.hid (add_big lb b v _ false (zeroB size) wm HB.out.lg (by rw [List.length_replicate]; unfold taken; split <;> omega) (by rw [zeroB_size]; omega) (by rw [zeroB_size, List.length_replicate]; exact ht2))
        have HN := Lib.hid (show FullInv w b lb size (k + 1) wm from ⟨L, v, by
          have e1 : fullL size (k + 1) = fullL size k := by unfold fullL; rw [ht1]
          rw [ht1, e1]; exact HB.out, hbm2, HFF.out⟩)
        clear ht1 ht2
        generalize zeroB size = z at hcv HAd
        have h6 : 200 ≤ k := by omega
        clear hbig
        go_wp2_with (go_at_call 15; refine HAd.out.mono ?_; rintro e w' ⟨rfl, rfl⟩)
        go_roundw
        case rel => exact ⟨k + 1, by omega, by go_num, HN.out⟩
        case measure => simp [intOf]; omega
      · have h6 : k < 200 := by omega
        obtain ⟨ha1, ha2, ha3⟩ := full_step hlt hn HM.out h5 h6
        have hadd := add_any b (mkL (fullL size k)) L lb v _ (zeroB size) wm HB.out (by rw [zeroB_size]; omega) (by rw [List.length_replicate, ha3]; exact h6) ⟨by show 2 ≤ _; decide, by show 0 ≤ _; decide⟩
        have hadd2 := hadd.mono (fun e w' he => (⟨by rw [he.1, ha1], by
            have h9 := he.2
            unfold AddPost at h9
            rw [ha1, if_pos rfl, ha2] at h9
            obtain ⟨L', v', h10, h11, h12⟩ := h9
            exact ⟨L', v', h10, below_of_touch hbm2 h11 HFF.out, fun i hi => (h12 i hi).elim (HFF.out i) (fun h => Nat.le_trans hbm2.size h)⟩⟩ : e = .returned (.int .i64 0) ∧ FullInv w b lb size (k + 1) w'))
        have HAd := Lib.hid hadd2
        clear hadd hadd2 ha1 ha2 ha3 hbig
        generalize zeroB size = z at hcv HAd
        go_wp2_with (go_at_call 15; refine HAd.out.mono ?_; rintro e w' ⟨rfl, hI'⟩)
        go_roundw
        case rel => exact ⟨k + 1, by omega, by go_num, hI'⟩
        case measure => simp [intOf]; omega
    · obtain ⟨_, _, _, hb, _⟩ := HI.out
      have HB := Lib.hid hb
      clear hb
      have HN := Lib.hid (new_any room wr (by omega))
      go_wp2_with fail
      refine HN.out.mono ?_
      rintro e w2 ⟨b2, L2, rfl, hd2, hb2, hf2⟩
      have HFm := Lib.hid (format_any b2 _ L2 w2 hd2 ((small_new _).mono (by decide)))
      rw [mkS_new _ (by omega)] at HFm
      clear hd2
      go_wp2_with fail
      refine HFm.out.mono ?_
      rintro e w3 ⟨rfl, L3, hd3, ht3, hf3⟩
      have hbw3 : Below wr.heap.size wr w3 := below_of_touch hb2 ht3 hf2
      have hff3 : ∀ k ∈ foot b2 L3, wr.heap.size ≤ k := fun k hk => (hf3 k hk).elim (hf2 k) (fun h => Nat.le_trans hb2.size h)
      have HO := Lib.hid (open_any b2 _ L3 w3 hd3 (by rw [mkS_read]))
      rw [mkS_read, parse_nil] at HO
      clear ht3 hf3 hf2
      go_wp2_with fail
      refine HO.out.mono ?_
      rintro e w4 ⟨lb2, v2, rfl, hl4, hb4, hf4⟩
      have hB4 : Both w4 b2 (mkS room ⟨#[]⟩) L3 lb2 v2 [] false := ⟨hd3.below hb4, hl4, fun k hk hf => by have := hf4 k hk; have := hd3.flt k hf; omega⟩
      have hbw4 : Below wr.heap.size wr w4 := hbw3.trans (hb4.mono hbw3.size)
      have hff4 : ∀ k, bothFoot b2 L3 lb2 v2 k → wr.heap.size ≤ k := fun k hk => hk.elim (hff3 k) (fun h => Nat.le_trans hbw3.size (hf4 k h))
      clear hd3 hl4 hf4 hff3
      obtain ⟨wm, hmk, hbm, hcv⟩ := make_zeros w4 size (by omega)
      skip
      have hBm := hB4.below hbm
      have hbwm : Below wr.heap.size wr wm := hbw4.trans (hbm.mono hbw4.size)
      have hmB := hBm.dk.ok.rm
      have hadd := add_any b2 (mkS room ⟨#[]⟩) L3 lb2 v2 [] (zeroB size) wm hBm (by rw [zeroB_size]; omega) (by decide) ⟨by show 1 ≤ _; decide, by show 0 ≤ _; decide⟩
      have HFF := Lib.hid hff4
      clear hB4 hBm hff4 hmB
      have ha : lgAdd (mkS room ⟨#[]⟩) (zeroB size) = (mkS room ⟨#[]⟩, 9) := by
        rw [mkS_add, if_pos (by rw [zeroB_size]; show (room : Int) - ((0 : Nat) : Int) < _; omega)]
      have hadd2 := hadd.mono (fun e w' he => (⟨by rw [he.1, ha], by
          have h9 := he.2
          unfold AddPost at h9
          rw [ha, if_neg (show ¬ (9 : Int) = 0 by decide)] at h9
          exact h9⟩ : e = .returned (.int .i64 9) ∧ WlPost b2 L3 lb2 v2 (mkS room ⟨#[]⟩) [] false wm w'))
      have HAd := Lib.hid hadd2
      clear hadd hadd2 ha
      have HZ : Hid (zeroB size = zeroB size) := rfl
      go_wp2_with fail
      refine HAd.out.mono ?_
      rintro e w5 ⟨rfl, L5, v5, hB5, ht5, hf5⟩
      have hbw5 : Below wr.heap.size wr w5 := below_of_touch hbwm ht5 HFF.out
      have HO5 := Lib.hid (open_any b2 _ L5 w5 hB5.dk (by rw [mkS_read]))
      rw [mkS_read, parse_nil] at HO5
      have HR5 := Lib.hid (fun (wx : World) (hx : Below w5.heap.size w5 wx) => records_any lb2 b2 v5 [] false wx (hB5.lg.below hx) (by decide))
      clear hB5 ht5 hf5
      go_wp2_with fail
      refine HO5.out.mono ?_
      rintro e w6 ⟨lb3, v3, rfl, hl6, hb6, hf6⟩
      have HR6 := Lib.hid (fun (wx : World) (hx : Below w6.heap.size w6 wx) => records_any lb3 b2 v3 [] _ wx (hl6.below hx) (by decide))
      have HA := Lib.hid (awake15_any w6)
      clear hl6 hf6
      go_wp2_with fail
      refine HA.out.mono ?_
      rintro e w7 ⟨rfl, hb7⟩
      go_wp2_with fail
      refine (HR6.out _ hb7).mono ?_
      rintro e w8 ⟨u8, rfl, ho8, hb8, ad8, cp8, rfl⟩
      clear ho8
      go_wp2_with fail
      refine (HR5.out _ (hb6.trans ((hb7.trans (hb8.mono hb7.size)).mono hb6.size))).mono ?_
      rintro e w9 ⟨u9, rfl, ho9, hb9, ad9, cp9, rfl⟩
      clear ho9
      go_wp2_with fail
      refine (HR5.out _ (hb6.trans (((hb7.trans (hb8.mono hb7.size)).trans (hb9.mono (Nat.le_trans hb7.size hb8.size))).mono hb6.size))).mono ?_
      rintro e w10 ⟨u10, rfl, ho10, hb10, ad10, cp10, rfl⟩
      clear ho10
      have z5 := hbw5.size
      have z6 := hb6.size
      have z7 := hb7.size
      have z8 := hb8.size
      have z9 := hb9.size
      have hall : Below w.heap.size w w10 := HB.out.trans (((((((hbw5.trans (hb6.mono z5)).trans (hb7.mono (by omega))).trans (hb8.mono (by omega))).trans (hb9.mono (by omega))).trans (hb10.mono (by omega))).mono HB.out.size))
      have HALL := Lib.hid hall
      clear hall
      go_wp2
      go_ret
      exact ⟨ret_bool (a := !decide ((size : Int) + 8 ≤ room)) (by simp; omega), HALL.out⟩
end Go.Proofs.Ytacifkdheeligaa
