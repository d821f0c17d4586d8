/- What the log's laws begin with: awake, start. -/
import Derived.Test.YtjdkhainlcalbaaWd
namespace Go.Proofs.Ytjdkhainlcalbaa
open Go.RowKit Go.Maps

def logD (room : Int) : Dk := (lgReplace (dkNew room) []).1
theorem logD_ok : (lgReplace (dkNew 1000) []).2 = 0 := by decide +kernel
theorem logD_read : ((logD 1000).read logName).2 = 0 := by decide +kernel
theorem logD_bytes : ((logD 1000).read logName).1 = ⟨#[]⟩ := by decide +kernel
theorem parse_nil : parse ⟨#[]⟩ = ([], 0) := by decide +kernel
theorem logD_add : (lgAdd (logD 1000) ⟨#[120]⟩).2 = 0 := by decide +kernel
theorem frame_a : frame ⟨#[97]⟩ = ⟨#[1, 0, 0, 0, 97, 67, 190, 183, 232]⟩ := by decide +kernel

theorem below_of_touch {F : Nat → Prop} {w0 w w' : World} (hb : Below w0.heap.size w0 w) (ht : Touch F w w') (hF : ∀ k, F k → w0.heap.size ≤ k) : Below w0.heap.size w0 w' :=
  hb.trans (ht.below hb.size (fun k hk hf => by have := hF k hf; omega))
theorem small_new (room : Int) : (dkNew room).small 0 := ⟨Nat.le_refl _, Nat.le_refl _⟩

set_option maxHeartbeats 1600000 in
set_option maxRecDepth 100000 in
theorem awake15_any (w : World) : Calls Try.prog 42 #[] w fun e w' => e = .returned (.bool true) ∧ Below w.heap.size w w' := by
  have HN := Lib.hid (new_any 1000 w (by decide))
  go_enter Try.func42, Try.ntmps42
  go_wp2_with fail
  refine HN.out.mono ?_
  rintro e w1 ⟨b, L, rfl, hd1, hb1, hf1⟩
  have HFm := Lib.hid (format_any b _ L w1 hd1 (by exact (small_new 1000).mono (by decide)))
  rw [logD_ok] at HFm
  clear hd1
  go_wp2_with fail
  refine HFm.out.mono ?_
  rintro e w2 ⟨rfl, L2, hd2, ht2, hf2⟩
  have hbw2 : Below w.heap.size w w2 := below_of_touch hb1 ht2 hf1
  have hff2 : ∀ k ∈ foot b L2, w.heap.size ≤ k := fun k hk => (hf2 k hk).elim (hf1 k) (fun h => Nat.le_trans hb1.size h)
  have HO := Lib.hid (open_any b (logD 1000) L2 w2 hd2 logD_read)
  rw [logD_bytes, parse_nil] at HO
  clear ht2 hf2
  go_wp2_with fail
  refine HO.out.mono ?_
  rintro e w3 ⟨lb, v, rfl, hl3, hb3, hf3⟩
  have hB3 : Both w3 b (logD 1000) L2 lb v [] false := ⟨hd2.below hb3, hl3, fun k hk hf => by have := hf3 k hk; have := hd2.flt k hf; omega⟩
  have hbw3 : Below w.heap.size w w3 := hbw2.trans (hb3.mono hbw2.size)
  have hff3 : ∀ k, bothFoot b L2 lb v k → w.heap.size ≤ k := fun k hk => hk.elim (hff2 k) (fun h => Nat.le_trans hbw2.size (hf3 k h))
  have HAd := Lib.hid (add_any b (logD 1000) L2 lb v [] ⟨#[120]⟩ w3 hB3 (by decide) (by decide) (by unfold logD; exact ⟨by decide +kernel, by decide +kernel⟩))
  rw [logD_add] at HAd
  clear hl3 hb3 hf3 hd2 hB3
  go_wp2_with fail
  refine HAd.out.mono ?_
  rintro e w4 ⟨rfl, hp4⟩
  unfold AddPost at hp4
  rw [logD_add, if_pos rfl] at hp4
  obtain ⟨L4, v4, hB4, ht4, hf4⟩ := hp4
  have hbw4 : Below w.heap.size w w4 := below_of_touch hbw3 ht4 hff3
  have HR4 := Lib.hid (fun (wx : World) (hx : Below w4.heap.size w4 wx) => records_any lb b v4 [⟨#[120]⟩] false wx (hB4.lg.below hx) (by decide))
  clear hB4 ht4 hf4 hff3
  go_wp2_with fail
  refine (HR4.out _ (Below.refl _ _)).mono ?_
  rintro e w5 ⟨u5, rfl, ho5, hb5, ad5, cp5, rfl⟩
  clear ho5
  go_wp2_with fail
  refine (HR4.out _ hb5).mono ?_
  rintro e w6 ⟨u6, rfl, ho6, hb6, ad6, cp6, rfl⟩
  obtain ⟨g6, rfl⟩ : ∃ g, ad6 = some ⟨g, 0, none⟩ := by
    rcases ho6.2 with ⟨h1, h2⟩ | ⟨g, cap, _, hv, _⟩
    · cases h2
    · simp at hv; exact ⟨g, hv.1⟩
  have c6 : w6.cell? ⟨g6, 0, none⟩ = some (.string ⟨#[120]⟩) := by
    have := own_cell ho6 (j := 0) (u := .string ⟨#[120]⟩) rfl
    simpa [Addr.add] using this
  have HF6 := Lib.hid (fun w => frame_any ⟨#[97]⟩ w (by decide))
  rw [frame_a] at HF6
  clear ho6
  go_wp2_with fail
  refine (HF6.out _).mono ?_
  rintro e w7 ⟨rfl, hb7⟩
  go_wp2
  go_ret
  exact ⟨rfl, ((hbw4.trans (hb5.mono hbw4.size)).trans (hb6.mono (Nat.le_trans hbw4.size hb5.size))).trans (hb7.mono (Nat.le_trans hbw4.size (Nat.le_trans hb5.size hb6.size)))⟩
end Go.Proofs.Ytjdkhainlcalbaa
