/- The index's laws: awake. -/
import Derived.Test.YtopmanmjggcfaaaJf
import Derived.Test.YtopmanmjggcfaaaIg
namespace Go.Proofs.Ytopmanmjggcfaaa
open Go.RowKit

theorem ixAt_new (w : World) : IxAt (w.alloc (.cells #[.map none, .slice none 0 0] 27)) w.heap.size none none ⟨[], []⟩ :=
  ⟨none, 0, Blk.new w _ _, ⟨rfl, Or.inl ⟨rfl, rfl⟩⟩, rfl, (fun e => by cases e), rfl⟩
/-- heads that have just been laid -/
def hdsC (hs : List Hd) : List Value := (hs.map hdC).flatten
theorem flat_at {k : Nat} {u : Value} : ∀ {l : List (List Value)} {i j : Nat} {x : List Value}, (∀ x ∈ l, x.length = k) → l[i]? = some x → x[j]? = some u → l.flatten[i * k + j]? = some u
  | [], i, _, _, _, hi, _ => by simp at hi
  | y :: r, 0, j, x, hc, hi, hj => by
    simp only [List.getElem?_cons_zero, Option.some.injEq] at hi
    subst hi
    have hy := hc y (by simp)
    have hjl := (List.getElem?_eq_some_iff.1 hj).1
    rw [List.flatten_cons, Nat.zero_mul, Nat.zero_add, List.getElem?_append_left hjl]
    exact hj
  | y :: r, i + 1, j, x, hc, hi, hj => by
    simp only [List.getElem?_cons_succ] at hi
    have hy := hc y (by simp)
    rw [List.flatten_cons, List.getElem?_append_right (by rw [hy, Nat.succ_mul]; omega), hy]
    have e : (i + 1) * k + j - k = i * k + j := by rw [Nat.succ_mul]; omega
    rw [e]
    exact flat_at (fun x hx => hc x (by simp [hx])) hi hj
theorem rowA_new (w : World) (t : TypeId) (cs : Array Value) (hs : List Hd) (h : cs.toList = hdsC hs) : RowA (w.alloc (.cells cs t)) (w.alloc (.cells cs t)).heap.size 6 (some ⟨w.heap.size, 0, none⟩) (hs.map hdC) := fun _ => by
  refine ⟨w.heap.size, 0, rfl, by simp, fun i c hi j u hj => ?_⟩
  have hb := Blk.new w t cs
  rw [Nat.zero_add, hb.cell]
  have : cs.toList[i * 6 + j]? = some u := by
    rw [h]
    exact flat_at (fun x hx => by obtain ⟨y, _, rfl⟩ := List.mem_map.1 hx; rfl) hi hj
  simpa using this
theorem new_far {w : World} {b : Nat} {mb rb : Option Nat} {X : Ix} (h : IxAt w b mb rb X) : ∀ g o', (some (⟨w.heap.size, 0, none⟩ : Addr)) = some ⟨g, o', none⟩ → ¬ IxF b mb rb g := by
  rintro g o' e hf
  injection e with e
  injection e with e
  subst e
  exact Nat.lt_irrefl _ (h.lt _ hf)
def hdN (s : ByteArray) : Hd := ⟨s, 0, 0, 0, 0, 0⟩
def awX1 : Ix := (⟨[], []⟩ : Ix).add ⟨#[112]⟩ [hdN ⟨#[97]⟩]
def awX2 : Ix := awX1.add ⟨#[113]⟩ [hdN ⟨#[97]⟩, hdN ⟨#[98]⟩]
theorem aw_a : kvGet awX2.places ⟨#[97]⟩ = some ⟨⟨#[112]⟩, hdN ⟨#[97]⟩⟩ := by rfl
theorem aw_b : kvGet awX2.places ⟨#[98]⟩ = some ⟨⟨#[113]⟩, hdN ⟨#[98]⟩⟩ := by rfl
theorem aw_len : awX1.places.length = 1 ∧ awX1.packs.length = 1 ∧ awX2.places.length = 2 ∧ awX2.packs.length = 2 := by refine ⟨by rfl, by rfl, by rfl, by rfl⟩
theorem ix_none_wr : (⟨[], []⟩ : Ix).Wr := ⟨Ix.ok_none, by decide, by decide, (fun _ h => by cases h), (fun _ h => by cases h), by decide⟩
theorem ix_none_enc : bs (encI ⟨[], []⟩) = (⟨#[0, 0]⟩ : ByteArray) := by rfl
set_option maxRecDepth 100000 in
set_option maxHeartbeats 1600000 in
theorem awake_any (w : World) : Calls Try.prog 10 #[] w fun e w' => e = .returned (.bool true) ∧ Below w.heap.size w w' := by
  have HB0 := Lib.hid ((Below.refl w.heap.size w).alloc (Nat.le_refl _) (.cells #[.map none, .slice none 0 0] 27))
  have HI0 := Lib.hid (ixAt_new w)
  go_enter Try.func10, Try.ntmps10
  go_upto_region 2 with fail
  generalize w.alloc (.cells #[.map none, .slice none 0 0] 27) = w0 at *
  have HA1 := Lib.hid (iadd_any w.heap.size none none ⟨[], []⟩ ⟨#[112]⟩ [hdN ⟨#[97]⟩] (some ⟨w0.heap.size, 0, none⟩) 1 (w0.alloc (.cells #[.string ⟨#[97]⟩, .int .i64 0, .int .u32 0, .int .i64 0, .int .i64 0, .int .i64 0] 32)) (HI0.out.below ((Below.refl _ _).alloc (Nat.le_refl _) _)) (rowA_new w0 _ _ _ rfl) (new_far HI0.out) (by decide) (by decide) (by decide) (by decide) (by intro h hh; simp only [List.mem_singleton] at hh; subst hh; decide))
  go_wp2_with fail
  refine HA1.out.mono ?_
  rintro e w1 ⟨rfl, mb1, rb1, hi1, hg1⟩
  have HI1 := Lib.hid (show IxAt w1 w.heap.size mb1 rb1 awX1 from hi1)
  have HB1 := Lib.hid ((HB0.out.alloc HB0.out.size (.cells #[.string ⟨#[97]⟩, .int .i64 0, .int .u32 0, .int .i64 0, .int .i64 0, .int .i64 0] 32)).trans (hg1.1.below (B := w.heap.size) (by have := HB0.out.size; simp; omega) (by
    rintro k hk (rfl | e | e)
    · exact Nat.lt_irrefl _ hk
    · cases e
    · cases e)))
  have HN1 := Lib.hid (show (∀ k, mb1 = some k → w.heap.size ≤ k) ∧ (∀ k, rb1 = some k → w.heap.size ≤ k) from by
    have hz : w.heap.size ≤ (w0.alloc (.cells #[.string ⟨#[97]⟩, .int .i64 0, .int .u32 0, .int .i64 0, .int .i64 0, .int .i64 0] 32)).heap.size := by have := HB0.out.size; simp; omega
    constructor
    · rintro k e
      rcases hg1.2.1 with h | ⟨j, h, hj⟩
      · rw [h] at e; cases e
      · rw [h] at e; cases e; omega
    · rintro k e
      rcases hg1.2.2 with h | ⟨j, h, hj⟩
      · rw [h] at e; cases e
      · rw [h] at e; cases e; omega)
  clear hi1 hg1 HA1 HI0 HB0
  have HA2 := Lib.hid (iadd_any w.heap.size mb1 rb1 awX1 ⟨#[113]⟩ [hdN ⟨#[97]⟩, hdN ⟨#[98]⟩] (some ⟨w1.heap.size, 0, none⟩) 2 (w1.alloc (.cells #[.string ⟨#[97]⟩, .int .i64 0, .int .u32 0, .int .i64 0, .int .i64 0, .int .i64 0, .string ⟨#[98]⟩, .int .i64 0, .int .u32 0, .int .i64 0, .int .i64 0, .int .i64 0] 32)) (HI1.out.below ((Below.refl _ _).alloc (Nat.le_refl _) _)) (rowA_new w1 _ _ _ rfl) (new_far HI1.out) (by decide) (by rw [aw_len.1]; decide) (by rw [aw_len.2.1]; decide) (by decide) (by intro h hh; simp only [List.mem_cons, List.not_mem_nil, or_false] at hh; rcases hh with rfl | rfl <;> decide))
  go_wp2_with fail
  refine HA2.out.mono ?_
  rintro e w2 ⟨rfl, mb2, rb2, hi2, hg2⟩
  have HI2 := Lib.hid (show IxAt w2 w.heap.size mb2 rb2 awX2 from hi2)
  have HB2 := Lib.hid ((HB1.out.alloc HB1.out.size (.cells #[.string ⟨#[97]⟩, .int .i64 0, .int .u32 0, .int .i64 0, .int .i64 0, .int .i64 0, .string ⟨#[98]⟩, .int .i64 0, .int .u32 0, .int .i64 0, .int .i64 0, .int .i64 0] 32)).trans (hg2.1.below (B := w.heap.size) (by have := HB1.out.size; simp; omega) (by
    rintro k hk (rfl | e | e)
    · exact Nat.lt_irrefl _ hk
    · have := HN1.out.1 k e; omega
    · have := HN1.out.2 k e; omega)))
  clear hi2 hg2 HA2 HI1 HB1 HN1
  have hf := fun W h => find_any w.heap.size mb2 rb2 awX2 ⟨#[97]⟩ W h (by decide)
  have hf2 := fun W h => find_any w.heap.size mb2 rb2 awX2 ⟨#[98]⟩ W h (by decide)
  rw [aw_a] at hf
  rw [aw_b] at hf2
  unfold plV plC hdN at hf hf2
  have HF1 := Lib.hid hf
  have HF2 := Lib.hid hf2
  clear hf hf2
  go_wp2_with fail
  refine (HF1.out _ HI2.out).mono ?_
  rintro e w3 ⟨rfl, hb3⟩
  have hb3a := hb3.trans ((Below.refl w3.heap.size w3).alloc (Nat.le_refl _) (.cells #[.string ⟨#[112]⟩, .string ⟨#[97]⟩, .int .i64 0, .int .u32 0, .int .i64 0, .int .i64 0, .int .i64 0] 34) |>.mono hb3.size)
  have HI3 := Lib.hid (HI2.out.below hb3a)
  have HK3 := Lib.hid (Blk.new w3 34 #[.string ⟨#[112]⟩, .string ⟨#[97]⟩, .int .i64 0, .int .u32 0, .int .i64 0, .int .i64 0, .int .i64 0])
  have HB3 := Lib.hid (HB2.out.trans (hb3a.mono HB2.out.size))
  clear hb3 hb3a HI2 HB2 HF1
  go_wp2_with fail
  refine (HF2.out _ HI3.out).mono ?_
  rintro e w4 ⟨rfl, hb4⟩
  have hb4a := hb4.trans ((Below.refl w4.heap.size w4).alloc (Nat.le_refl _) (.cells #[.string ⟨#[113]⟩, .string ⟨#[98]⟩, .int .i64 0, .int .u32 0, .int .i64 0, .int .i64 0, .int .i64 0] 34) |>.mono hb4.size)
  have HK4 := Lib.hid (HK3.out.below hb4a HK3.out.lt)
  have HL4 := Lib.hid (Blk.new w4 34 #[.string ⟨#[113]⟩, .string ⟨#[98]⟩, .int .i64 0, .int .u32 0, .int .i64 0, .int .i64 0, .int .i64 0])
  have HB4 := Lib.hid (HB3.out.trans (hb4a.mono HB3.out.size))
  clear hb4 hb4a HI3 HB3 HF2 HK3
  go_upto_region 6 with fail
  generalize w4.alloc (.cells #[.string ⟨#[113]⟩, .string ⟨#[98]⟩, .int .i64 0, .int .u32 0, .int .i64 0, .int .i64 0, .int .i64 0] 34) = w5 at *
  have k4 : w5.cell? ⟨w3.heap.size, 0, none⟩ = some (.string ⟨#[112]⟩) := HK4.out.cell 0
  have l4 : w5.cell? ⟨w4.heap.size, 0, none⟩ = some (.string ⟨#[113]⟩) := HL4.out.cell 0
  have HE := Lib.hid (ienc_any w5.heap.size none none ⟨[], []⟩ _ (ixAt_new w5) ix_none_wr)
  rw [ix_none_enc] at HE
  have hk3 : w3.heap.size < w5.heap.size := HK4.out.lt
  have hk4 : w4.heap.size < w5.heap.size := HL4.out.lt
  go_wp2_with fail
  refine HE.out.mono ?_
  rintro e w6 ⟨rfl, hb6⟩
  have HB6 := Lib.hid (HB4.out.trans (((Below.refl _ _).alloc (Nat.le_refl _) _).trans (hb6.mono (by simp)) |>.mono HB4.out.size))
  clear hb6
  go_wp2
  go_ret
  exact ⟨rfl, HB6.out⟩
end Go.Proofs.Ytopmanmjggcfaaa
