/- Manifests: reading, the document's: the walk (printed by wip/gen/mkread.py). -/
import Derived.Test.YtbjompcaekbjoaaDoorMk
namespace Go.Proofs.YtbjompcaekbjoaaDoor
open Go.RowKit

set_option maxRecDepth 100000 in
set_option maxHeartbeats 3200000 in
theorem rread_any (s : ByteArray) (w : World) (he : Env w) (hs : s.size ≤ 1099511627776) :
    Calls Tryd.prog 24 #[.string s] w fun e w' => DecPost s w e w' := by
  have HEV := Lib.hid fun W (hb : Below w.heap.size w W) => he.below hb
  have hpre := (pre_iff s).symm
  have HB0 := Lib.hid (show RB w ((w.alloc (.cells #[.int .i64 0, .string ⟨#[]⟩, .string ⟨#[]⟩, .int .i64 0, .slice none 0 0] 30)).alloc (.cells #[.int .i64 0, .string ⟨#[]⟩, .string ⟨#[]⟩, .int .i64 0, .slice none 0 0] 30)) (.int .i64 0) (.string ⟨#[]⟩) (.string ⟨#[]⟩) (.int .i64 0) from
    ⟨(Blk.new w 30 #[.int .i64 0, .string ⟨#[]⟩, .string ⟨#[]⟩, .int .i64 0, .slice none 0 0]).alloc _, by
      have := Blk.new (w.alloc (.cells #[.int .i64 0, .string ⟨#[]⟩, .string ⟨#[]⟩, .int .i64 0, .slice none 0 0] 30)) 30 #[.int .i64 0, .string ⟨#[]⟩, .string ⟨#[]⟩, .int .i64 0, .slice none 0 0]
      rw [World.size_alloc] at this
      exact this, ((Below.refl _ w).alloc (Nat.le_refl _) _).alloc (by simp) _, by simp⟩)
  clear he
  go_enter Tryd.func24, Tryd.ntmps24
  go_upto_region 2 with fail
  generalize ((w.alloc (.cells #[.int .i64 0, .string ⟨#[]⟩, .string ⟨#[]⟩, .int .i64 0, .slice none 0 0] 30)).alloc (.cells #[.int .i64 0, .string ⟨#[]⟩, .string ⟨#[]⟩, .int .i64 0, .slice none 0 0] 30)) = W at *
  have r0 : (W).cell? ⟨w.heap.size, 0, none⟩ = some (.int .i64 0) := HB0.out.1.cell 0
  have u0 : (W).frozen? ⟨w.heap.size, 0, none⟩ = false := HB0.out.1.frozen 0
  have r1 : (W).cell? ⟨w.heap.size, 1, none⟩ = some (.string ⟨#[]⟩) := HB0.out.1.cell 1
  have u1 : (W).frozen? ⟨w.heap.size, 1, none⟩ = false := HB0.out.1.frozen 1
  have r2 : (W).cell? ⟨w.heap.size, 2, none⟩ = some (.string ⟨#[]⟩) := HB0.out.1.cell 2
  have u2 : (W).frozen? ⟨w.heap.size, 2, none⟩ = false := HB0.out.1.frozen 2
  have r3 : (W).cell? ⟨w.heap.size, 3, none⟩ = some (.int .i64 0) := HB0.out.1.cell 3
  have u3 : (W).frozen? ⟨w.heap.size, 3, none⟩ = false := HB0.out.1.frozen 3
  have r4 : (W).cell? ⟨w.heap.size, 4, none⟩ = some (.slice none 0 0) := HB0.out.1.cell 4
  have u4 : (W).frozen? ⟨w.heap.size, 4, none⟩ = false := HB0.out.1.frozen 4
  have m0 : (W).cell? ⟨w.heap.size + 1, 0, none⟩ = some (.int .i64 0) := HB0.out.2.1.cell 0
  have f0 : (W).frozen? ⟨w.heap.size + 1, 0, none⟩ = false := HB0.out.2.1.frozen 0
  have m1 : (W).cell? ⟨w.heap.size + 1, 1, none⟩ = some (.string ⟨#[]⟩) := HB0.out.2.1.cell 1
  have f1 : (W).frozen? ⟨w.heap.size + 1, 1, none⟩ = false := HB0.out.2.1.frozen 1
  have m2 : (W).cell? ⟨w.heap.size + 1, 2, none⟩ = some (.string ⟨#[]⟩) := HB0.out.2.1.cell 2
  have f2 : (W).frozen? ⟨w.heap.size + 1, 2, none⟩ = false := HB0.out.2.1.frozen 2
  have m3 : (W).cell? ⟨w.heap.size + 1, 3, none⟩ = some (.int .i64 0) := HB0.out.2.1.cell 3
  have f3 : (W).frozen? ⟨w.heap.size + 1, 3, none⟩ = false := HB0.out.2.1.frozen 3
  have m4 : (W).cell? ⟨w.heap.size + 1, 4, none⟩ = some (.slice none 0 0) := HB0.out.2.1.cell 4
  have f4 : (W).frozen? ⟨w.heap.size + 1, 4, none⟩ = false := HB0.out.2.1.frozen 4
  by_cases h4 : s.size < 4
  · have HX := Lib.hid (decS_nopre (pre_short s h4))
    have hq : (s.size : Int) < 4 := by omega
    clear hpre h4
    go_wp2
    refine bodyPost_ret (v := .tuple #[.agg #[.int .i64 0, .string ⟨#[]⟩, .string ⟨#[]⟩, .int .i64 0, .slice none 0 0], .int .i64 3]) (by simp [results, Tryd.results24, go_sem, r0, r1, r2, r3, r4]) rfl ?_
    exact dec_out HX.out (below5 HB0.out.2.2.1 _ _ _ _ _)
  · have hq : ¬ (s.size : Int) < 4 := by omega
    have hq4 : (4 : Int) ≤ (s.size : Int) := by omega
    cases hp : Lib.hasPrefix s.data.toList snapL with
    | false =>
      have HX := Lib.hid (decS_nopre hp)
      rw [hp] at hpre

      clear hp h4
      go_wp2
      refine bodyPost_ret (v := .tuple #[.agg #[.int .i64 0, .string ⟨#[]⟩, .string ⟨#[]⟩, .int .i64 0, .slice none 0 0], .int .i64 3]) (by simp [results, Tryd.results24, go_sem, r0, r1, r2, r3, r4]) rfl ?_
      exact dec_out HX.out (below5 HB0.out.2.2.1 _ _ _ _ _)
    | true =>
      have HDS := Lib.hid (decS_pre hp)
      rw [hp] at hpre

      have hz0 : (s.extract 4 s.size).size ≤ 1099511627776 := by simp only [ByteArray.size_extract]; omega
      clear hp h4
      rcases h1 : numS (s.extract 4 s.size) false with ⟨x, s1, b1⟩
      have z1 := numS_le (s.extract 4 s.size) false
      rw [h1] at z1
      simp only at z1
      have T1 := Lib.hid fun W => rtake_any (s.extract 4 s.size) W (by omega)
      cases b1 with
      | true =>
        rw [tk_no h1] at T1
        have HX := Lib.hid (show decS s = (noMan, 3) by rw [HDS.out, if_pos (Or.inl (red1 h1))])
        clear  h1
        go_wp2_with fail
        refine (T1.out _).mono ?_
        rintro e w1 ⟨rfl, hb1⟩
        have HB1 := Lib.hid (HB0.out.low hb1)
        clear r0 r1 r2 r3 r4 u0 u1 u2 u3 u4 m0 m1 m2 m3 m4 f0 f1 f2 f3 f4 hb1
        have r0 : (w1).cell? ⟨w.heap.size, 0, none⟩ = some (.int .i64 0) := HB1.out.1.cell 0
        have u0 : (w1).frozen? ⟨w.heap.size, 0, none⟩ = false := HB1.out.1.frozen 0
        have r1 : (w1).cell? ⟨w.heap.size, 1, none⟩ = some (.string ⟨#[]⟩) := HB1.out.1.cell 1
        have u1 : (w1).frozen? ⟨w.heap.size, 1, none⟩ = false := HB1.out.1.frozen 1
        have r2 : (w1).cell? ⟨w.heap.size, 2, none⟩ = some (.string ⟨#[]⟩) := HB1.out.1.cell 2
        have u2 : (w1).frozen? ⟨w.heap.size, 2, none⟩ = false := HB1.out.1.frozen 2
        have r3 : (w1).cell? ⟨w.heap.size, 3, none⟩ = some (.int .i64 0) := HB1.out.1.cell 3
        have u3 : (w1).frozen? ⟨w.heap.size, 3, none⟩ = false := HB1.out.1.frozen 3
        have r4 : (w1).cell? ⟨w.heap.size, 4, none⟩ = some (.slice none 0 0) := HB1.out.1.cell 4
        have u4 : (w1).frozen? ⟨w.heap.size, 4, none⟩ = false := HB1.out.1.frozen 4
        have m0 : (w1).cell? ⟨w.heap.size + 1, 0, none⟩ = some (.int .i64 0) := HB1.out.2.1.cell 0
        have f0 : (w1).frozen? ⟨w.heap.size + 1, 0, none⟩ = false := HB1.out.2.1.frozen 0
        have m1 : (w1).cell? ⟨w.heap.size + 1, 1, none⟩ = some (.string ⟨#[]⟩) := HB1.out.2.1.cell 1
        have f1 : (w1).frozen? ⟨w.heap.size + 1, 1, none⟩ = false := HB1.out.2.1.frozen 1
        have m2 : (w1).cell? ⟨w.heap.size + 1, 2, none⟩ = some (.string ⟨#[]⟩) := HB1.out.2.1.cell 2
        have f2 : (w1).frozen? ⟨w.heap.size + 1, 2, none⟩ = false := HB1.out.2.1.frozen 2
        have m3 : (w1).cell? ⟨w.heap.size + 1, 3, none⟩ = some (.int .i64 0) := HB1.out.2.1.cell 3
        have f3 : (w1).frozen? ⟨w.heap.size + 1, 3, none⟩ = false := HB1.out.2.1.frozen 3
        have m4 : (w1).cell? ⟨w.heap.size + 1, 4, none⟩ = some (.slice none 0 0) := HB1.out.2.1.cell 4
        have f4 : (w1).frozen? ⟨w.heap.size + 1, 4, none⟩ = false := HB1.out.2.1.frozen 4
        go_wp2
        refine bodyPost_ret (v := .tuple #[.agg #[.int .i64 0, .string ⟨#[]⟩, .string ⟨#[]⟩, .int .i64 0, .slice none 0 0], .int .i64 3]) (by simp [results, Tryd.results24, go_sem, r0, r1, r2, r3, r4]) rfl ?_
        exact dec_out HX.out (below5 HB1.out.2.2.1 _ _ _ _ _)
      | false =>
        rw [tk_ok h1] at T1
        go_wp2_with fail
        refine (T1.out _).mono ?_
        rintro e w1 ⟨rfl, hb1⟩
        have HB1 := Lib.hid (HB0.out.low hb1)
        clear r0 r1 r2 r3 r4 u0 u1 u2 u3 u4 m0 m1 m2 m3 m4 f0 f1 f2 f3 f4 hb1
        have r0 : (w1).cell? ⟨w.heap.size, 0, none⟩ = some (.int .i64 0) := HB1.out.1.cell 0
        have u0 : (w1).frozen? ⟨w.heap.size, 0, none⟩ = false := HB1.out.1.frozen 0
        have r1 : (w1).cell? ⟨w.heap.size, 1, none⟩ = some (.string ⟨#[]⟩) := HB1.out.1.cell 1
        have u1 : (w1).frozen? ⟨w.heap.size, 1, none⟩ = false := HB1.out.1.frozen 1
        have r2 : (w1).cell? ⟨w.heap.size, 2, none⟩ = some (.string ⟨#[]⟩) := HB1.out.1.cell 2
        have u2 : (w1).frozen? ⟨w.heap.size, 2, none⟩ = false := HB1.out.1.frozen 2
        have r3 : (w1).cell? ⟨w.heap.size, 3, none⟩ = some (.int .i64 0) := HB1.out.1.cell 3
        have u3 : (w1).frozen? ⟨w.heap.size, 3, none⟩ = false := HB1.out.1.frozen 3
        have r4 : (w1).cell? ⟨w.heap.size, 4, none⟩ = some (.slice none 0 0) := HB1.out.1.cell 4
        have u4 : (w1).frozen? ⟨w.heap.size, 4, none⟩ = false := HB1.out.1.frozen 4
        have m0 : (w1).cell? ⟨w.heap.size + 1, 0, none⟩ = some (.int .i64 0) := HB1.out.2.1.cell 0
        have f0 : (w1).frozen? ⟨w.heap.size + 1, 0, none⟩ = false := HB1.out.2.1.frozen 0
        have m1 : (w1).cell? ⟨w.heap.size + 1, 1, none⟩ = some (.string ⟨#[]⟩) := HB1.out.2.1.cell 1
        have f1 : (w1).frozen? ⟨w.heap.size + 1, 1, none⟩ = false := HB1.out.2.1.frozen 1
        have m2 : (w1).cell? ⟨w.heap.size + 1, 2, none⟩ = some (.string ⟨#[]⟩) := HB1.out.2.1.cell 2
        have f2 : (w1).frozen? ⟨w.heap.size + 1, 2, none⟩ = false := HB1.out.2.1.frozen 2
        have m3 : (w1).cell? ⟨w.heap.size + 1, 3, none⟩ = some (.int .i64 0) := HB1.out.2.1.cell 3
        have f3 : (w1).frozen? ⟨w.heap.size + 1, 3, none⟩ = false := HB1.out.2.1.frozen 3
        have m4 : (w1).cell? ⟨w.heap.size + 1, 4, none⟩ = some (.slice none 0 0) := HB1.out.2.1.cell 4
        have f4 : (w1).frozen? ⟨w.heap.size + 1, 4, none⟩ = false := HB1.out.2.1.frozen 4
        go_upto_region 8 with fail
        have HA1 := Lib.hid (show RB w (w1.setCell ⟨w.heap.size + 1, 0, none⟩ (.int .i64 x)) (.int .i64 x) (.string ⟨#[]⟩) (.string ⟨#[]⟩) (.int .i64 0) from RB.set_ HB1.out.1 HB1.out.2.1 HB1.out.2.2.1 HB1.out.2.2.2 0 (.int .i64 x) rfl)
        clear r0 r1 r2 r3 r4 u0 u1 u2 u3 u4 m0 m1 m2 m3 m4 f0 f1 f2 f3 f4 HB1
        generalize w1.setCell ⟨w.heap.size + 1, 0, none⟩ (.int .i64 x) = W1 at *
        have r0 : (W1).cell? ⟨w.heap.size, 0, none⟩ = some (.int .i64 0) := HA1.out.1.cell 0
        have u0 : (W1).frozen? ⟨w.heap.size, 0, none⟩ = false := HA1.out.1.frozen 0
        have r1 : (W1).cell? ⟨w.heap.size, 1, none⟩ = some (.string ⟨#[]⟩) := HA1.out.1.cell 1
        have u1 : (W1).frozen? ⟨w.heap.size, 1, none⟩ = false := HA1.out.1.frozen 1
        have r2 : (W1).cell? ⟨w.heap.size, 2, none⟩ = some (.string ⟨#[]⟩) := HA1.out.1.cell 2
        have u2 : (W1).frozen? ⟨w.heap.size, 2, none⟩ = false := HA1.out.1.frozen 2
        have r3 : (W1).cell? ⟨w.heap.size, 3, none⟩ = some (.int .i64 0) := HA1.out.1.cell 3
        have u3 : (W1).frozen? ⟨w.heap.size, 3, none⟩ = false := HA1.out.1.frozen 3
        have r4 : (W1).cell? ⟨w.heap.size, 4, none⟩ = some (.slice none 0 0) := HA1.out.1.cell 4
        have u4 : (W1).frozen? ⟨w.heap.size, 4, none⟩ = false := HA1.out.1.frozen 4
        have m0 : (W1).cell? ⟨w.heap.size + 1, 0, none⟩ = some (.int .i64 x) := HA1.out.2.1.cell 0
        have f0 : (W1).frozen? ⟨w.heap.size + 1, 0, none⟩ = false := HA1.out.2.1.frozen 0
        have m1 : (W1).cell? ⟨w.heap.size + 1, 1, none⟩ = some (.string ⟨#[]⟩) := HA1.out.2.1.cell 1
        have f1 : (W1).frozen? ⟨w.heap.size + 1, 1, none⟩ = false := HA1.out.2.1.frozen 1
        have m2 : (W1).cell? ⟨w.heap.size + 1, 2, none⟩ = some (.string ⟨#[]⟩) := HA1.out.2.1.cell 2
        have f2 : (W1).frozen? ⟨w.heap.size + 1, 2, none⟩ = false := HA1.out.2.1.frozen 2
        have m3 : (W1).cell? ⟨w.heap.size + 1, 3, none⟩ = some (.int .i64 0) := HA1.out.2.1.cell 3
        have f3 : (W1).frozen? ⟨w.heap.size + 1, 3, none⟩ = false := HA1.out.2.1.frozen 3
        have m4 : (W1).cell? ⟨w.heap.size + 1, 4, none⟩ = some (.slice none 0 0) := HA1.out.2.1.cell 4
        have f4 : (W1).frozen? ⟨w.heap.size + 1, 4, none⟩ = false := HA1.out.2.1.frozen 4
        rcases h2 : txO (s1) with ⟨t, s2, b2⟩
        have z2 := tx_le (s1)
        rw [h2] at z2
        simp only at z2
        have T2 := Lib.hid fun W => rtxt_any (s1) W (by omega)
        cases b2 with
        | true =>
          rw [tx_no h2] at T2
          have HX := Lib.hid (show decS s = (noMan, 3) by rw [HDS.out, if_pos (Or.inl (red2 h1 h2))])
          clear h1 h2
          go_wp2_with fail
          refine (T2.out _).mono ?_
          rintro e w2 ⟨rfl, hb2⟩
          have HB2 := Lib.hid (HA1.out.low hb2)
          clear r0 r1 r2 r3 r4 u0 u1 u2 u3 u4 m0 m1 m2 m3 m4 f0 f1 f2 f3 f4 hb2
          have r0 : (w2).cell? ⟨w.heap.size, 0, none⟩ = some (.int .i64 0) := HB2.out.1.cell 0
          have u0 : (w2).frozen? ⟨w.heap.size, 0, none⟩ = false := HB2.out.1.frozen 0
          have r1 : (w2).cell? ⟨w.heap.size, 1, none⟩ = some (.string ⟨#[]⟩) := HB2.out.1.cell 1
          have u1 : (w2).frozen? ⟨w.heap.size, 1, none⟩ = false := HB2.out.1.frozen 1
          have r2 : (w2).cell? ⟨w.heap.size, 2, none⟩ = some (.string ⟨#[]⟩) := HB2.out.1.cell 2
          have u2 : (w2).frozen? ⟨w.heap.size, 2, none⟩ = false := HB2.out.1.frozen 2
          have r3 : (w2).cell? ⟨w.heap.size, 3, none⟩ = some (.int .i64 0) := HB2.out.1.cell 3
          have u3 : (w2).frozen? ⟨w.heap.size, 3, none⟩ = false := HB2.out.1.frozen 3
          have r4 : (w2).cell? ⟨w.heap.size, 4, none⟩ = some (.slice none 0 0) := HB2.out.1.cell 4
          have u4 : (w2).frozen? ⟨w.heap.size, 4, none⟩ = false := HB2.out.1.frozen 4
          have m0 : (w2).cell? ⟨w.heap.size + 1, 0, none⟩ = some (.int .i64 x) := HB2.out.2.1.cell 0
          have f0 : (w2).frozen? ⟨w.heap.size + 1, 0, none⟩ = false := HB2.out.2.1.frozen 0
          have m1 : (w2).cell? ⟨w.heap.size + 1, 1, none⟩ = some (.string ⟨#[]⟩) := HB2.out.2.1.cell 1
          have f1 : (w2).frozen? ⟨w.heap.size + 1, 1, none⟩ = false := HB2.out.2.1.frozen 1
          have m2 : (w2).cell? ⟨w.heap.size + 1, 2, none⟩ = some (.string ⟨#[]⟩) := HB2.out.2.1.cell 2
          have f2 : (w2).frozen? ⟨w.heap.size + 1, 2, none⟩ = false := HB2.out.2.1.frozen 2
          have m3 : (w2).cell? ⟨w.heap.size + 1, 3, none⟩ = some (.int .i64 0) := HB2.out.2.1.cell 3
          have f3 : (w2).frozen? ⟨w.heap.size + 1, 3, none⟩ = false := HB2.out.2.1.frozen 3
          have m4 : (w2).cell? ⟨w.heap.size + 1, 4, none⟩ = some (.slice none 0 0) := HB2.out.2.1.cell 4
          have f4 : (w2).frozen? ⟨w.heap.size + 1, 4, none⟩ = false := HB2.out.2.1.frozen 4
          go_wp2
          refine bodyPost_ret (v := .tuple #[.agg #[.int .i64 0, .string ⟨#[]⟩, .string ⟨#[]⟩, .int .i64 0, .slice none 0 0], .int .i64 3]) (by simp [results, Tryd.results24, go_sem, r0, r1, r2, r3, r4]) rfl ?_
          exact dec_out HX.out (below5 (HB2.out.2.2.1.setCell (p := ⟨w.heap.size + 1, 1, none⟩) (by simp) (.string ⟨#[]⟩)) _ _ _ _ _)
        | false =>
          rw [tx_ok h2] at T2
          go_wp2_with fail
          refine (T2.out _).mono ?_
          rintro e w2 ⟨rfl, hb2⟩
          have HB2 := Lib.hid (HA1.out.low hb2)
          clear r0 r1 r2 r3 r4 u0 u1 u2 u3 u4 m0 m1 m2 m3 m4 f0 f1 f2 f3 f4 hb2
          have r0 : (w2).cell? ⟨w.heap.size, 0, none⟩ = some (.int .i64 0) := HB2.out.1.cell 0
          have u0 : (w2).frozen? ⟨w.heap.size, 0, none⟩ = false := HB2.out.1.frozen 0
          have r1 : (w2).cell? ⟨w.heap.size, 1, none⟩ = some (.string ⟨#[]⟩) := HB2.out.1.cell 1
          have u1 : (w2).frozen? ⟨w.heap.size, 1, none⟩ = false := HB2.out.1.frozen 1
          have r2 : (w2).cell? ⟨w.heap.size, 2, none⟩ = some (.string ⟨#[]⟩) := HB2.out.1.cell 2
          have u2 : (w2).frozen? ⟨w.heap.size, 2, none⟩ = false := HB2.out.1.frozen 2
          have r3 : (w2).cell? ⟨w.heap.size, 3, none⟩ = some (.int .i64 0) := HB2.out.1.cell 3
          have u3 : (w2).frozen? ⟨w.heap.size, 3, none⟩ = false := HB2.out.1.frozen 3
          have r4 : (w2).cell? ⟨w.heap.size, 4, none⟩ = some (.slice none 0 0) := HB2.out.1.cell 4
          have u4 : (w2).frozen? ⟨w.heap.size, 4, none⟩ = false := HB2.out.1.frozen 4
          have m0 : (w2).cell? ⟨w.heap.size + 1, 0, none⟩ = some (.int .i64 x) := HB2.out.2.1.cell 0
          have f0 : (w2).frozen? ⟨w.heap.size + 1, 0, none⟩ = false := HB2.out.2.1.frozen 0
          have m1 : (w2).cell? ⟨w.heap.size + 1, 1, none⟩ = some (.string ⟨#[]⟩) := HB2.out.2.1.cell 1
          have f1 : (w2).frozen? ⟨w.heap.size + 1, 1, none⟩ = false := HB2.out.2.1.frozen 1
          have m2 : (w2).cell? ⟨w.heap.size + 1, 2, none⟩ = some (.string ⟨#[]⟩) := HB2.out.2.1.cell 2
          have f2 : (w2).frozen? ⟨w.heap.size + 1, 2, none⟩ = false := HB2.out.2.1.frozen 2
          have m3 : (w2).cell? ⟨w.heap.size + 1, 3, none⟩ = some (.int .i64 0) := HB2.out.2.1.cell 3
          have f3 : (w2).frozen? ⟨w.heap.size + 1, 3, none⟩ = false := HB2.out.2.1.frozen 3
          have m4 : (w2).cell? ⟨w.heap.size + 1, 4, none⟩ = some (.slice none 0 0) := HB2.out.2.1.cell 4
          have f4 : (w2).frozen? ⟨w.heap.size + 1, 4, none⟩ = false := HB2.out.2.1.frozen 4
          go_upto_region 11 with fail
          have HA2 := Lib.hid (show RB w (w2.setCell ⟨w.heap.size + 1, 1, none⟩ (.string t)) (.int .i64 x) (.string t) (.string ⟨#[]⟩) (.int .i64 0) from RB.set_ HB2.out.1 HB2.out.2.1 HB2.out.2.2.1 HB2.out.2.2.2 1 (.string t) rfl)
          clear r0 r1 r2 r3 r4 u0 u1 u2 u3 u4 m0 m1 m2 m3 m4 f0 f1 f2 f3 f4 HB2
          generalize w2.setCell ⟨w.heap.size + 1, 1, none⟩ (.string t) = W2 at *
          have r0 : (W2).cell? ⟨w.heap.size, 0, none⟩ = some (.int .i64 0) := HA2.out.1.cell 0
          have u0 : (W2).frozen? ⟨w.heap.size, 0, none⟩ = false := HA2.out.1.frozen 0
          have r1 : (W2).cell? ⟨w.heap.size, 1, none⟩ = some (.string ⟨#[]⟩) := HA2.out.1.cell 1
          have u1 : (W2).frozen? ⟨w.heap.size, 1, none⟩ = false := HA2.out.1.frozen 1
          have r2 : (W2).cell? ⟨w.heap.size, 2, none⟩ = some (.string ⟨#[]⟩) := HA2.out.1.cell 2
          have u2 : (W2).frozen? ⟨w.heap.size, 2, none⟩ = false := HA2.out.1.frozen 2
          have r3 : (W2).cell? ⟨w.heap.size, 3, none⟩ = some (.int .i64 0) := HA2.out.1.cell 3
          have u3 : (W2).frozen? ⟨w.heap.size, 3, none⟩ = false := HA2.out.1.frozen 3
          have r4 : (W2).cell? ⟨w.heap.size, 4, none⟩ = some (.slice none 0 0) := HA2.out.1.cell 4
          have u4 : (W2).frozen? ⟨w.heap.size, 4, none⟩ = false := HA2.out.1.frozen 4
          have m0 : (W2).cell? ⟨w.heap.size + 1, 0, none⟩ = some (.int .i64 x) := HA2.out.2.1.cell 0
          have f0 : (W2).frozen? ⟨w.heap.size + 1, 0, none⟩ = false := HA2.out.2.1.frozen 0
          have m1 : (W2).cell? ⟨w.heap.size + 1, 1, none⟩ = some (.string t) := HA2.out.2.1.cell 1
          have f1 : (W2).frozen? ⟨w.heap.size + 1, 1, none⟩ = false := HA2.out.2.1.frozen 1
          have m2 : (W2).cell? ⟨w.heap.size + 1, 2, none⟩ = some (.string ⟨#[]⟩) := HA2.out.2.1.cell 2
          have f2 : (W2).frozen? ⟨w.heap.size + 1, 2, none⟩ = false := HA2.out.2.1.frozen 2
          have m3 : (W2).cell? ⟨w.heap.size + 1, 3, none⟩ = some (.int .i64 0) := HA2.out.2.1.cell 3
          have f3 : (W2).frozen? ⟨w.heap.size + 1, 3, none⟩ = false := HA2.out.2.1.frozen 3
          have m4 : (W2).cell? ⟨w.heap.size + 1, 4, none⟩ = some (.slice none 0 0) := HA2.out.2.1.cell 4
          have f4 : (W2).frozen? ⟨w.heap.size + 1, 4, none⟩ = false := HA2.out.2.1.frozen 4
          rcases h3 : txO (s2) with ⟨u, s3, b3⟩
          have z3 := tx_le (s2)
          rw [h3] at z3
          simp only at z3
          have T3 := Lib.hid fun W => rtxt_any (s2) W (by omega)
          cases b3 with
          | true =>
            rw [tx_no h3] at T3
            have HX := Lib.hid (show decS s = (noMan, 3) by rw [HDS.out, if_pos (Or.inl (red3 h1 h2 h3))])
            clear h1 h2 h3
            go_wp2_with fail
            refine (T3.out _).mono ?_
            rintro e w3 ⟨rfl, hb3⟩
            have HB3 := Lib.hid (HA2.out.low hb3)
            clear r0 r1 r2 r3 r4 u0 u1 u2 u3 u4 m0 m1 m2 m3 m4 f0 f1 f2 f3 f4 hb3
            have r0 : (w3).cell? ⟨w.heap.size, 0, none⟩ = some (.int .i64 0) := HB3.out.1.cell 0
            have u0 : (w3).frozen? ⟨w.heap.size, 0, none⟩ = false := HB3.out.1.frozen 0
            have r1 : (w3).cell? ⟨w.heap.size, 1, none⟩ = some (.string ⟨#[]⟩) := HB3.out.1.cell 1
            have u1 : (w3).frozen? ⟨w.heap.size, 1, none⟩ = false := HB3.out.1.frozen 1
            have r2 : (w3).cell? ⟨w.heap.size, 2, none⟩ = some (.string ⟨#[]⟩) := HB3.out.1.cell 2
            have u2 : (w3).frozen? ⟨w.heap.size, 2, none⟩ = false := HB3.out.1.frozen 2
            have r3 : (w3).cell? ⟨w.heap.size, 3, none⟩ = some (.int .i64 0) := HB3.out.1.cell 3
            have u3 : (w3).frozen? ⟨w.heap.size, 3, none⟩ = false := HB3.out.1.frozen 3
            have r4 : (w3).cell? ⟨w.heap.size, 4, none⟩ = some (.slice none 0 0) := HB3.out.1.cell 4
            have u4 : (w3).frozen? ⟨w.heap.size, 4, none⟩ = false := HB3.out.1.frozen 4
            have m0 : (w3).cell? ⟨w.heap.size + 1, 0, none⟩ = some (.int .i64 x) := HB3.out.2.1.cell 0
            have f0 : (w3).frozen? ⟨w.heap.size + 1, 0, none⟩ = false := HB3.out.2.1.frozen 0
            have m1 : (w3).cell? ⟨w.heap.size + 1, 1, none⟩ = some (.string t) := HB3.out.2.1.cell 1
            have f1 : (w3).frozen? ⟨w.heap.size + 1, 1, none⟩ = false := HB3.out.2.1.frozen 1
            have m2 : (w3).cell? ⟨w.heap.size + 1, 2, none⟩ = some (.string ⟨#[]⟩) := HB3.out.2.1.cell 2
            have f2 : (w3).frozen? ⟨w.heap.size + 1, 2, none⟩ = false := HB3.out.2.1.frozen 2
            have m3 : (w3).cell? ⟨w.heap.size + 1, 3, none⟩ = some (.int .i64 0) := HB3.out.2.1.cell 3
            have f3 : (w3).frozen? ⟨w.heap.size + 1, 3, none⟩ = false := HB3.out.2.1.frozen 3
            have m4 : (w3).cell? ⟨w.heap.size + 1, 4, none⟩ = some (.slice none 0 0) := HB3.out.2.1.cell 4
            have f4 : (w3).frozen? ⟨w.heap.size + 1, 4, none⟩ = false := HB3.out.2.1.frozen 4
            go_wp2
            refine bodyPost_ret (v := .tuple #[.agg #[.int .i64 0, .string ⟨#[]⟩, .string ⟨#[]⟩, .int .i64 0, .slice none 0 0], .int .i64 3]) (by simp [results, Tryd.results24, go_sem, r0, r1, r2, r3, r4]) rfl ?_
            exact dec_out HX.out (below5 (HB3.out.2.2.1.setCell (p := ⟨w.heap.size + 1, 2, none⟩) (by simp) (.string ⟨#[]⟩)) _ _ _ _ _)
          | false =>
            rw [tx_ok h3] at T3
            go_wp2_with fail
            refine (T3.out _).mono ?_
            rintro e w3 ⟨rfl, hb3⟩
            have HB3 := Lib.hid (HA2.out.low hb3)
            clear r0 r1 r2 r3 r4 u0 u1 u2 u3 u4 m0 m1 m2 m3 m4 f0 f1 f2 f3 f4 hb3
            have r0 : (w3).cell? ⟨w.heap.size, 0, none⟩ = some (.int .i64 0) := HB3.out.1.cell 0
            have u0 : (w3).frozen? ⟨w.heap.size, 0, none⟩ = false := HB3.out.1.frozen 0
            have r1 : (w3).cell? ⟨w.heap.size, 1, none⟩ = some (.string ⟨#[]⟩) := HB3.out.1.cell 1
            have u1 : (w3).frozen? ⟨w.heap.size, 1, none⟩ = false := HB3.out.1.frozen 1
            have r2 : (w3).cell? ⟨w.heap.size, 2, none⟩ = some (.string ⟨#[]⟩) := HB3.out.1.cell 2
            have u2 : (w3).frozen? ⟨w.heap.size, 2, none⟩ = false := HB3.out.1.frozen 2
            have r3 : (w3).cell? ⟨w.heap.size, 3, none⟩ = some (.int .i64 0) := HB3.out.1.cell 3
            have u3 : (w3).frozen? ⟨w.heap.size, 3, none⟩ = false := HB3.out.1.frozen 3
            have r4 : (w3).cell? ⟨w.heap.size, 4, none⟩ = some (.slice none 0 0) := HB3.out.1.cell 4
            have u4 : (w3).frozen? ⟨w.heap.size, 4, none⟩ = false := HB3.out.1.frozen 4
            have m0 : (w3).cell? ⟨w.heap.size + 1, 0, none⟩ = some (.int .i64 x) := HB3.out.2.1.cell 0
            have f0 : (w3).frozen? ⟨w.heap.size + 1, 0, none⟩ = false := HB3.out.2.1.frozen 0
            have m1 : (w3).cell? ⟨w.heap.size + 1, 1, none⟩ = some (.string t) := HB3.out.2.1.cell 1
            have f1 : (w3).frozen? ⟨w.heap.size + 1, 1, none⟩ = false := HB3.out.2.1.frozen 1
            have m2 : (w3).cell? ⟨w.heap.size + 1, 2, none⟩ = some (.string ⟨#[]⟩) := HB3.out.2.1.cell 2
            have f2 : (w3).frozen? ⟨w.heap.size + 1, 2, none⟩ = false := HB3.out.2.1.frozen 2
            have m3 : (w3).cell? ⟨w.heap.size + 1, 3, none⟩ = some (.int .i64 0) := HB3.out.2.1.cell 3
            have f3 : (w3).frozen? ⟨w.heap.size + 1, 3, none⟩ = false := HB3.out.2.1.frozen 3
            have m4 : (w3).cell? ⟨w.heap.size + 1, 4, none⟩ = some (.slice none 0 0) := HB3.out.2.1.cell 4
            have f4 : (w3).frozen? ⟨w.heap.size + 1, 4, none⟩ = false := HB3.out.2.1.frozen 4
            go_upto_region 14 with fail
            have HA3 := Lib.hid (show RB w (w3.setCell ⟨w.heap.size + 1, 2, none⟩ (.string u)) (.int .i64 x) (.string t) (.string u) (.int .i64 0) from RB.set_ HB3.out.1 HB3.out.2.1 HB3.out.2.2.1 HB3.out.2.2.2 2 (.string u) rfl)
            clear r0 r1 r2 r3 r4 u0 u1 u2 u3 u4 m0 m1 m2 m3 m4 f0 f1 f2 f3 f4 HB3
            generalize w3.setCell ⟨w.heap.size + 1, 2, none⟩ (.string u) = W3 at *
            have r0 : (W3).cell? ⟨w.heap.size, 0, none⟩ = some (.int .i64 0) := HA3.out.1.cell 0
            have u0 : (W3).frozen? ⟨w.heap.size, 0, none⟩ = false := HA3.out.1.frozen 0
            have r1 : (W3).cell? ⟨w.heap.size, 1, none⟩ = some (.string ⟨#[]⟩) := HA3.out.1.cell 1
            have u1 : (W3).frozen? ⟨w.heap.size, 1, none⟩ = false := HA3.out.1.frozen 1
            have r2 : (W3).cell? ⟨w.heap.size, 2, none⟩ = some (.string ⟨#[]⟩) := HA3.out.1.cell 2
            have u2 : (W3).frozen? ⟨w.heap.size, 2, none⟩ = false := HA3.out.1.frozen 2
            have r3 : (W3).cell? ⟨w.heap.size, 3, none⟩ = some (.int .i64 0) := HA3.out.1.cell 3
            have u3 : (W3).frozen? ⟨w.heap.size, 3, none⟩ = false := HA3.out.1.frozen 3
            have r4 : (W3).cell? ⟨w.heap.size, 4, none⟩ = some (.slice none 0 0) := HA3.out.1.cell 4
            have u4 : (W3).frozen? ⟨w.heap.size, 4, none⟩ = false := HA3.out.1.frozen 4
            have m0 : (W3).cell? ⟨w.heap.size + 1, 0, none⟩ = some (.int .i64 x) := HA3.out.2.1.cell 0
            have f0 : (W3).frozen? ⟨w.heap.size + 1, 0, none⟩ = false := HA3.out.2.1.frozen 0
            have m1 : (W3).cell? ⟨w.heap.size + 1, 1, none⟩ = some (.string t) := HA3.out.2.1.cell 1
            have f1 : (W3).frozen? ⟨w.heap.size + 1, 1, none⟩ = false := HA3.out.2.1.frozen 1
            have m2 : (W3).cell? ⟨w.heap.size + 1, 2, none⟩ = some (.string u) := HA3.out.2.1.cell 2
            have f2 : (W3).frozen? ⟨w.heap.size + 1, 2, none⟩ = false := HA3.out.2.1.frozen 2
            have m3 : (W3).cell? ⟨w.heap.size + 1, 3, none⟩ = some (.int .i64 0) := HA3.out.2.1.cell 3
            have f3 : (W3).frozen? ⟨w.heap.size + 1, 3, none⟩ = false := HA3.out.2.1.frozen 3
            have m4 : (W3).cell? ⟨w.heap.size + 1, 4, none⟩ = some (.slice none 0 0) := HA3.out.2.1.cell 4
            have f4 : (W3).frozen? ⟨w.heap.size + 1, 4, none⟩ = false := HA3.out.2.1.frozen 4
            rcases h4 : numS (s3) false with ⟨z, s4, b4⟩
            have z4 := numS_le (s3) false
            rw [h4] at z4
            simp only at z4
            have T4 := Lib.hid fun W => rtake_any (s3) W (by omega)
            cases b4 with
            | true =>
              rw [tk_no h4] at T4
              have HX := Lib.hid (show decS s = (noMan, 3) by rw [HDS.out, if_pos (Or.inl (red4 h1 h2 h3 h4))])
              clear h1 h2 h3 h4
              go_wp2_with fail
              refine (T4.out _).mono ?_
              rintro e w4 ⟨rfl, hb4⟩
              have HB4 := Lib.hid (HA3.out.low hb4)
              clear r0 r1 r2 r3 r4 u0 u1 u2 u3 u4 m0 m1 m2 m3 m4 f0 f1 f2 f3 f4 hb4
              have r0 : (w4).cell? ⟨w.heap.size, 0, none⟩ = some (.int .i64 0) := HB4.out.1.cell 0
              have u0 : (w4).frozen? ⟨w.heap.size, 0, none⟩ = false := HB4.out.1.frozen 0
              have r1 : (w4).cell? ⟨w.heap.size, 1, none⟩ = some (.string ⟨#[]⟩) := HB4.out.1.cell 1
              have u1 : (w4).frozen? ⟨w.heap.size, 1, none⟩ = false := HB4.out.1.frozen 1
              have r2 : (w4).cell? ⟨w.heap.size, 2, none⟩ = some (.string ⟨#[]⟩) := HB4.out.1.cell 2
              have u2 : (w4).frozen? ⟨w.heap.size, 2, none⟩ = false := HB4.out.1.frozen 2
              have r3 : (w4).cell? ⟨w.heap.size, 3, none⟩ = some (.int .i64 0) := HB4.out.1.cell 3
              have u3 : (w4).frozen? ⟨w.heap.size, 3, none⟩ = false := HB4.out.1.frozen 3
              have r4 : (w4).cell? ⟨w.heap.size, 4, none⟩ = some (.slice none 0 0) := HB4.out.1.cell 4
              have u4 : (w4).frozen? ⟨w.heap.size, 4, none⟩ = false := HB4.out.1.frozen 4
              have m0 : (w4).cell? ⟨w.heap.size + 1, 0, none⟩ = some (.int .i64 x) := HB4.out.2.1.cell 0
              have f0 : (w4).frozen? ⟨w.heap.size + 1, 0, none⟩ = false := HB4.out.2.1.frozen 0
              have m1 : (w4).cell? ⟨w.heap.size + 1, 1, none⟩ = some (.string t) := HB4.out.2.1.cell 1
              have f1 : (w4).frozen? ⟨w.heap.size + 1, 1, none⟩ = false := HB4.out.2.1.frozen 1
              have m2 : (w4).cell? ⟨w.heap.size + 1, 2, none⟩ = some (.string u) := HB4.out.2.1.cell 2
              have f2 : (w4).frozen? ⟨w.heap.size + 1, 2, none⟩ = false := HB4.out.2.1.frozen 2
              have m3 : (w4).cell? ⟨w.heap.size + 1, 3, none⟩ = some (.int .i64 0) := HB4.out.2.1.cell 3
              have f3 : (w4).frozen? ⟨w.heap.size + 1, 3, none⟩ = false := HB4.out.2.1.frozen 3
              have m4 : (w4).cell? ⟨w.heap.size + 1, 4, none⟩ = some (.slice none 0 0) := HB4.out.2.1.cell 4
              have f4 : (w4).frozen? ⟨w.heap.size + 1, 4, none⟩ = false := HB4.out.2.1.frozen 4
              go_wp2
              refine bodyPost_ret (v := .tuple #[.agg #[.int .i64 0, .string ⟨#[]⟩, .string ⟨#[]⟩, .int .i64 0, .slice none 0 0], .int .i64 3]) (by simp [results, Tryd.results24, go_sem, r0, r1, r2, r3, r4]) rfl ?_
              exact dec_out HX.out (below5 (HB4.out.2.2.1.setCell (p := ⟨w.heap.size + 1, 3, none⟩) (by simp) (.int .i64 0)) _ _ _ _ _)
            | false =>
              rw [tk_ok h4] at T4
              go_wp2_with fail
              refine (T4.out _).mono ?_
              rintro e w4 ⟨rfl, hb4⟩
              have HB4 := Lib.hid (HA3.out.low hb4)
              clear r0 r1 r2 r3 r4 u0 u1 u2 u3 u4 m0 m1 m2 m3 m4 f0 f1 f2 f3 f4 hb4
              have r0 : (w4).cell? ⟨w.heap.size, 0, none⟩ = some (.int .i64 0) := HB4.out.1.cell 0
              have u0 : (w4).frozen? ⟨w.heap.size, 0, none⟩ = false := HB4.out.1.frozen 0
              have r1 : (w4).cell? ⟨w.heap.size, 1, none⟩ = some (.string ⟨#[]⟩) := HB4.out.1.cell 1
              have u1 : (w4).frozen? ⟨w.heap.size, 1, none⟩ = false := HB4.out.1.frozen 1
              have r2 : (w4).cell? ⟨w.heap.size, 2, none⟩ = some (.string ⟨#[]⟩) := HB4.out.1.cell 2
              have u2 : (w4).frozen? ⟨w.heap.size, 2, none⟩ = false := HB4.out.1.frozen 2
              have r3 : (w4).cell? ⟨w.heap.size, 3, none⟩ = some (.int .i64 0) := HB4.out.1.cell 3
              have u3 : (w4).frozen? ⟨w.heap.size, 3, none⟩ = false := HB4.out.1.frozen 3
              have r4 : (w4).cell? ⟨w.heap.size, 4, none⟩ = some (.slice none 0 0) := HB4.out.1.cell 4
              have u4 : (w4).frozen? ⟨w.heap.size, 4, none⟩ = false := HB4.out.1.frozen 4
              have m0 : (w4).cell? ⟨w.heap.size + 1, 0, none⟩ = some (.int .i64 x) := HB4.out.2.1.cell 0
              have f0 : (w4).frozen? ⟨w.heap.size + 1, 0, none⟩ = false := HB4.out.2.1.frozen 0
              have m1 : (w4).cell? ⟨w.heap.size + 1, 1, none⟩ = some (.string t) := HB4.out.2.1.cell 1
              have f1 : (w4).frozen? ⟨w.heap.size + 1, 1, none⟩ = false := HB4.out.2.1.frozen 1
              have m2 : (w4).cell? ⟨w.heap.size + 1, 2, none⟩ = some (.string u) := HB4.out.2.1.cell 2
              have f2 : (w4).frozen? ⟨w.heap.size + 1, 2, none⟩ = false := HB4.out.2.1.frozen 2
              have m3 : (w4).cell? ⟨w.heap.size + 1, 3, none⟩ = some (.int .i64 0) := HB4.out.2.1.cell 3
              have f3 : (w4).frozen? ⟨w.heap.size + 1, 3, none⟩ = false := HB4.out.2.1.frozen 3
              have m4 : (w4).cell? ⟨w.heap.size + 1, 4, none⟩ = some (.slice none 0 0) := HB4.out.2.1.cell 4
              have f4 : (w4).frozen? ⟨w.heap.size + 1, 4, none⟩ = false := HB4.out.2.1.frozen 4
              go_upto_region 17 with fail
              have HA4 := Lib.hid (show RB w (w4.setCell ⟨w.heap.size + 1, 3, none⟩ (.int .i64 z)) (.int .i64 x) (.string t) (.string u) (.int .i64 z) from RB.set_ HB4.out.1 HB4.out.2.1 HB4.out.2.2.1 HB4.out.2.2.2 3 (.int .i64 z) rfl)
              clear r0 r1 r2 r3 r4 u0 u1 u2 u3 u4 m0 m1 m2 m3 m4 f0 f1 f2 f3 f4 HB4
              generalize w4.setCell ⟨w.heap.size + 1, 3, none⟩ (.int .i64 z) = W4 at *
              have r0 : (W4).cell? ⟨w.heap.size, 0, none⟩ = some (.int .i64 0) := HA4.out.1.cell 0
              have u0 : (W4).frozen? ⟨w.heap.size, 0, none⟩ = false := HA4.out.1.frozen 0
              have r1 : (W4).cell? ⟨w.heap.size, 1, none⟩ = some (.string ⟨#[]⟩) := HA4.out.1.cell 1
              have u1 : (W4).frozen? ⟨w.heap.size, 1, none⟩ = false := HA4.out.1.frozen 1
              have r2 : (W4).cell? ⟨w.heap.size, 2, none⟩ = some (.string ⟨#[]⟩) := HA4.out.1.cell 2
              have u2 : (W4).frozen? ⟨w.heap.size, 2, none⟩ = false := HA4.out.1.frozen 2
              have r3 : (W4).cell? ⟨w.heap.size, 3, none⟩ = some (.int .i64 0) := HA4.out.1.cell 3
              have u3 : (W4).frozen? ⟨w.heap.size, 3, none⟩ = false := HA4.out.1.frozen 3
              have r4 : (W4).cell? ⟨w.heap.size, 4, none⟩ = some (.slice none 0 0) := HA4.out.1.cell 4
              have u4 : (W4).frozen? ⟨w.heap.size, 4, none⟩ = false := HA4.out.1.frozen 4
              have m0 : (W4).cell? ⟨w.heap.size + 1, 0, none⟩ = some (.int .i64 x) := HA4.out.2.1.cell 0
              have f0 : (W4).frozen? ⟨w.heap.size + 1, 0, none⟩ = false := HA4.out.2.1.frozen 0
              have m1 : (W4).cell? ⟨w.heap.size + 1, 1, none⟩ = some (.string t) := HA4.out.2.1.cell 1
              have f1 : (W4).frozen? ⟨w.heap.size + 1, 1, none⟩ = false := HA4.out.2.1.frozen 1
              have m2 : (W4).cell? ⟨w.heap.size + 1, 2, none⟩ = some (.string u) := HA4.out.2.1.cell 2
              have f2 : (W4).frozen? ⟨w.heap.size + 1, 2, none⟩ = false := HA4.out.2.1.frozen 2
              have m3 : (W4).cell? ⟨w.heap.size + 1, 3, none⟩ = some (.int .i64 z) := HA4.out.2.1.cell 3
              have f3 : (W4).frozen? ⟨w.heap.size + 1, 3, none⟩ = false := HA4.out.2.1.frozen 3
              have m4 : (W4).cell? ⟨w.heap.size + 1, 4, none⟩ = some (.slice none 0 0) := HA4.out.2.1.cell 4
              have f4 : (W4).frozen? ⟨w.heap.size + 1, 4, none⟩ = false := HA4.out.2.1.frozen 4
              rcases h5 : numS (s4) false with ⟨n, s5, b5⟩
              have z5 := numS_le (s4) false
              rw [h5] at z5
              simp only at z5
              have T5 := Lib.hid fun W => rtake_any (s4) W (by omega)
              cases b5 with
              | true =>
                rw [tk_no h5] at T5
                have HX := Lib.hid (show decS s = (noMan, 3) by rw [HDS.out, if_pos (Or.inl (red5 h1 h2 h3 h4 h5))])
                clear h1 h2 h3 h4 h5
                go_wp2_with fail
                refine (T5.out _).mono ?_
                rintro e w5 ⟨rfl, hb5⟩
                have HB5 := Lib.hid (HA4.out.low hb5)
                clear r0 r1 r2 r3 r4 u0 u1 u2 u3 u4 m0 m1 m2 m3 m4 f0 f1 f2 f3 f4 hb5
                have r0 : (w5).cell? ⟨w.heap.size, 0, none⟩ = some (.int .i64 0) := HB5.out.1.cell 0
                have u0 : (w5).frozen? ⟨w.heap.size, 0, none⟩ = false := HB5.out.1.frozen 0
                have r1 : (w5).cell? ⟨w.heap.size, 1, none⟩ = some (.string ⟨#[]⟩) := HB5.out.1.cell 1
                have u1 : (w5).frozen? ⟨w.heap.size, 1, none⟩ = false := HB5.out.1.frozen 1
                have r2 : (w5).cell? ⟨w.heap.size, 2, none⟩ = some (.string ⟨#[]⟩) := HB5.out.1.cell 2
                have u2 : (w5).frozen? ⟨w.heap.size, 2, none⟩ = false := HB5.out.1.frozen 2
                have r3 : (w5).cell? ⟨w.heap.size, 3, none⟩ = some (.int .i64 0) := HB5.out.1.cell 3
                have u3 : (w5).frozen? ⟨w.heap.size, 3, none⟩ = false := HB5.out.1.frozen 3
                have r4 : (w5).cell? ⟨w.heap.size, 4, none⟩ = some (.slice none 0 0) := HB5.out.1.cell 4
                have u4 : (w5).frozen? ⟨w.heap.size, 4, none⟩ = false := HB5.out.1.frozen 4
                have m0 : (w5).cell? ⟨w.heap.size + 1, 0, none⟩ = some (.int .i64 x) := HB5.out.2.1.cell 0
                have f0 : (w5).frozen? ⟨w.heap.size + 1, 0, none⟩ = false := HB5.out.2.1.frozen 0
                have m1 : (w5).cell? ⟨w.heap.size + 1, 1, none⟩ = some (.string t) := HB5.out.2.1.cell 1
                have f1 : (w5).frozen? ⟨w.heap.size + 1, 1, none⟩ = false := HB5.out.2.1.frozen 1
                have m2 : (w5).cell? ⟨w.heap.size + 1, 2, none⟩ = some (.string u) := HB5.out.2.1.cell 2
                have f2 : (w5).frozen? ⟨w.heap.size + 1, 2, none⟩ = false := HB5.out.2.1.frozen 2
                have m3 : (w5).cell? ⟨w.heap.size + 1, 3, none⟩ = some (.int .i64 z) := HB5.out.2.1.cell 3
                have f3 : (w5).frozen? ⟨w.heap.size + 1, 3, none⟩ = false := HB5.out.2.1.frozen 3
                have m4 : (w5).cell? ⟨w.heap.size + 1, 4, none⟩ = some (.slice none 0 0) := HB5.out.2.1.cell 4
                have f4 : (w5).frozen? ⟨w.heap.size + 1, 4, none⟩ = false := HB5.out.2.1.frozen 4
                go_wp2
                refine bodyPost_ret (v := .tuple #[.agg #[.int .i64 0, .string ⟨#[]⟩, .string ⟨#[]⟩, .int .i64 0, .slice none 0 0], .int .i64 3]) (by simp [results, Tryd.results24, go_sem, r0, r1, r2, r3, r4]) rfl ?_
                exact dec_out HX.out (below5 HB5.out.2.2.1 _ _ _ _ _)
              | false =>
                rw [tk_ok h5] at T5
                go_wp2_with fail
                refine (T5.out _).mono ?_
                rintro e w5 ⟨rfl, hb5⟩
                have HB5 := Lib.hid (HA4.out.low hb5)
                clear r0 r1 r2 r3 r4 u0 u1 u2 u3 u4 m0 m1 m2 m3 m4 f0 f1 f2 f3 f4 hb5
                have r0 : (w5).cell? ⟨w.heap.size, 0, none⟩ = some (.int .i64 0) := HB5.out.1.cell 0
                have u0 : (w5).frozen? ⟨w.heap.size, 0, none⟩ = false := HB5.out.1.frozen 0
                have r1 : (w5).cell? ⟨w.heap.size, 1, none⟩ = some (.string ⟨#[]⟩) := HB5.out.1.cell 1
                have u1 : (w5).frozen? ⟨w.heap.size, 1, none⟩ = false := HB5.out.1.frozen 1
                have r2 : (w5).cell? ⟨w.heap.size, 2, none⟩ = some (.string ⟨#[]⟩) := HB5.out.1.cell 2
                have u2 : (w5).frozen? ⟨w.heap.size, 2, none⟩ = false := HB5.out.1.frozen 2
                have r3 : (w5).cell? ⟨w.heap.size, 3, none⟩ = some (.int .i64 0) := HB5.out.1.cell 3
                have u3 : (w5).frozen? ⟨w.heap.size, 3, none⟩ = false := HB5.out.1.frozen 3
                have r4 : (w5).cell? ⟨w.heap.size, 4, none⟩ = some (.slice none 0 0) := HB5.out.1.cell 4
                have u4 : (w5).frozen? ⟨w.heap.size, 4, none⟩ = false := HB5.out.1.frozen 4
                have m0 : (w5).cell? ⟨w.heap.size + 1, 0, none⟩ = some (.int .i64 x) := HB5.out.2.1.cell 0
                have f0 : (w5).frozen? ⟨w.heap.size + 1, 0, none⟩ = false := HB5.out.2.1.frozen 0
                have m1 : (w5).cell? ⟨w.heap.size + 1, 1, none⟩ = some (.string t) := HB5.out.2.1.cell 1
                have f1 : (w5).frozen? ⟨w.heap.size + 1, 1, none⟩ = false := HB5.out.2.1.frozen 1
                have m2 : (w5).cell? ⟨w.heap.size + 1, 2, none⟩ = some (.string u) := HB5.out.2.1.cell 2
                have f2 : (w5).frozen? ⟨w.heap.size + 1, 2, none⟩ = false := HB5.out.2.1.frozen 2
                have m3 : (w5).cell? ⟨w.heap.size + 1, 3, none⟩ = some (.int .i64 z) := HB5.out.2.1.cell 3
                have f3 : (w5).frozen? ⟨w.heap.size + 1, 3, none⟩ = false := HB5.out.2.1.frozen 3
                have m4 : (w5).cell? ⟨w.heap.size + 1, 4, none⟩ = some (.slice none 0 0) := HB5.out.2.1.cell 4
                have f4 : (w5).frozen? ⟨w.heap.size + 1, 4, none⟩ = false := HB5.out.2.1.frozen 4
                have HR6 := Lib.hid (red6 h1 h2 h3 h4 h5)
                have hsum := loopS_sizes n s5
                clear h1 h2 h3 h4 h5
                have hqq : (s5.size % 32 ≠ 0) ∨ (s5.size % 32 = 0 ∧ n ≠ s5.size / 32) ∨ (s5.size % 32 = 0 ∧ n = s5.size / 32) := by omega
                rcases hqq with hq1 | ⟨hq1, hq2⟩ | ⟨hq1, hq2⟩
                · have HX := Lib.hid (show decS s = (noMan, 3) by
                    rw [HDS.out, HR6.out]
                    refine if_pos ?_
                    simp only
                    cases hb : (loopS n s5 false).2.2 with
                    | true => exact Or.inl rfl
                    | false =>
                      have := hsum hb
                      exact Or.inr (by omega))
                  have e1 : (((s5.size : Nat) : Int) % 32 != 0) = true := by simp; omega
                  clear hq1 hsum
                  go_wp2
                  refine bodyPost_ret (v := .tuple #[.agg #[.int .i64 0, .string ⟨#[]⟩, .string ⟨#[]⟩, .int .i64 0, .slice none 0 0], .int .i64 3]) (by simp [results, Tryd.results24, go_sem, r0, r1, r2, r3, r4]) rfl ?_
                  exact dec_out HX.out (below5 HB5.out.2.2.1 _ _ _ _ _)
                · have HX := Lib.hid (show decS s = (noMan, 3) by
                    rw [HDS.out, HR6.out]
                    refine if_pos ?_
                    simp only
                    cases hb : (loopS n s5 false).2.2 with
                    | true => exact Or.inl rfl
                    | false =>
                      have := hsum hb
                      exact Or.inr (by omega))
                  have e1 : (((s5.size : Nat) : Int) % 32 != 0) = false := by simp; omega
                  have e2 : (((n : Nat) : Int) != ((s5.size : Nat) : Int) / 32) = true := by simp; omega
                  clear hq1 hq2 hsum
                  go_wp2
                  refine bodyPost_ret (v := .tuple #[.agg #[.int .i64 0, .string ⟨#[]⟩, .string ⟨#[]⟩, .int .i64 0, .slice none 0 0], .int .i64 3]) (by simp [results, Tryd.results24, go_sem, r0, r1, r2, r3, r4]) rfl ?_
                  exact dec_out HX.out (below5 HB5.out.2.2.1 _ _ _ _ _)
                · have e1 : (((s5.size : Nat) : Int) % 32 != 0) = false := by simp; omega
                  have e2 : (((n : Nat) : Int) != ((s5.size : Nat) : Int) / 32) = false := by simp; omega
                  have hn5 : s5.size = 32 * n := by omega
                  clear hq1 hq2 hsum
                  obtain ⟨i0, hi0, hz0', hz1, hz2⟩ := info_parts infoS
                  have hfull := loopS_full n s5 hn5
                  have hrest := loopS_sizes n s5 hfull
                  have HDG := Lib.hid (show decS s = (if goodM ⟨x, t, u, z, (loopS n s5 false).1⟩ = true then (⟨x, t, u, z, (loopS n s5 false).1⟩, 0) else (noMan, 4)) by
                    rw [HDS.out, HR6.out]
                    refine if_neg (fun h => ?_)
                    simp only at h
                    rcases h with h | h
                    · rw [hfull] at h; cases h
                    · omega)
                  clear hfull hrest HDS HR6 hpre HB0 HA1 HA2 HA3 HA4 T1 T2 T3 T4 T5 hq hq4
                  go_wp2
                  clear r0 r1 r2 r3 r4 u0 u1 u2 u3 u4 m0 m1 m2 m3 m4 f0 f1 f2 f3 f4 e1 e2
                  go_loopw [0] (fun tv wr => ∃ (k cur : Nat) (acc : List ByteArray) (A : Option Addr) (s' : ByteArray), tv = .string s' ∧ s'.size = 32 * k ∧ Blk wr (w.heap.size + 1) 30 #[.int .i64 x, .string t, .string u, .int .i64 z, .slice A acc.length cur] ∧ wr.ownsRow (w.heap.size + 2) 9 1 (.slice A acc.length cur) acc.length (strsV acc) ∧ Blk wr w.heap.size 30 #[.int .i64 0, .string ⟨#[]⟩, .string ⟨#[]⟩, .int .i64 0, .slice none 0 0] ∧ Below w.heap.size w wr ∧ acc ++ (loopS k s' false).1 = (loopS n s5 false).1 ∧ k + acc.length ≤ 1099511627776 ∧ s'.size ≤ 1099511627776 ∧ w.heap.size + 2 ≤ wr.heap.size) (fun tv _ => match tv with | .string b => b.size | _ => 0)
                  case atStart =>
                    exact ⟨n, 0, [], none, s5, rfl, hn5, HB5.out.2.1, ⟨rfl, Or.inl ⟨rfl, rfl⟩⟩, HB5.out.1, HB5.out.2.2.1, rfl, by simp; omega, by omega, HB5.out.2.2.2⟩
                  case round =>
                    obtain ⟨k, cur, acc, A, s', rfl, hsk, hm, hown, hno, hb, hn1, hk, hs', hsz⟩ := hrel
                    have HM := Lib.hid hm
                    have HNO := Lib.hid hno
                    have HB := Lib.hid hb
                    have HN := Lib.hid hn1
                    have hem := toList_isEmpty s'
                    clear hm hno hb hn1 HB5 hn5
                    by_cases hk0 : k = 0
                    · subst hk0
                      rw [decide_eq_true (show s'.size = 0 by omega)] at hem
                      have hfin : acc = (loopS n s5 false).1 := by
                        have := HN.out
                        simpa [loopS] using this
                      have HDG2 := Lib.hid (show decS s = (if goodM ⟨x, t, u, z, acc⟩ = true then (⟨x, t, u, z, acc⟩, 0) else (noMan, 4)) by rw [hfin]; exact HDG.out)
                      clear HDG hfin HN
                      have hst := (own_strs (l := acc) hown).1
                      have hCK := mgood_any ⟨x, t, u, z, acc⟩ A cur wr (HEV.out _ HB.out) hst ⟨by simp only; omega, by simp only; omega, by simp only; omega, by simp only; omega, by simp only; omega, by simp only; omega, by simp only; omega⟩
                      unfold manV at hCK
                      simp only at hCK
                      have HCK := Lib.hid hCK
                      have m0 : (wr).cell? ⟨w.heap.size + 1, 0, none⟩ = some (.int .i64 x) := HM.out.cell 0
                      have f0 : (wr).frozen? ⟨w.heap.size + 1, 0, none⟩ = false := HM.out.frozen 0
                      have m1 : (wr).cell? ⟨w.heap.size + 1, 1, none⟩ = some (.string t) := HM.out.cell 1
                      have f1 : (wr).frozen? ⟨w.heap.size + 1, 1, none⟩ = false := HM.out.frozen 1
                      have m2 : (wr).cell? ⟨w.heap.size + 1, 2, none⟩ = some (.string u) := HM.out.cell 2
                      have f2 : (wr).frozen? ⟨w.heap.size + 1, 2, none⟩ = false := HM.out.frozen 2
                      have m3 : (wr).cell? ⟨w.heap.size + 1, 3, none⟩ = some (.int .i64 z) := HM.out.cell 3
                      have f3 : (wr).frozen? ⟨w.heap.size + 1, 3, none⟩ = false := HM.out.frozen 3
                      have m4 : (wr).cell? ⟨w.heap.size + 1, 4, none⟩ = some (.slice A acc.length cur) := HM.out.cell 4
                      have f4 : (wr).frozen? ⟨w.heap.size + 1, 4, none⟩ = false := HM.out.frozen 4
                      have HST := Lib.hid fun h => own_strs2 (l := acc) hown h
                      have HLE : acc.length ≤ cur := by
                        obtain ⟨_, _, q1, q2⟩ := own_form hown
                        injection q1 with _ _ q3
                        omega
                      clear hst hCK hown
                      cases hg : goodM ⟨x, t, u, z, acc⟩ with
                      | false =>
                        rw [hg] at HCK
                        have HX := Lib.hid (show decS s = (noMan, 4) by rw [HDG2.out, if_neg (by rw [hg]; simp)])
                        clear hg HDG2
                        go_wp2_with fail
                        refine HCK.out.mono ?_
                        rintro e w9 ⟨rfl, hb9⟩
                        have HB9 := Lib.hid (HB.out.trans (hb9.mono HB.out.size))
                        have HN9 := Lib.hid (Blk.below HNO.out hb9 (by omega))
                        have HM9 := Lib.hid (Blk.below HM.out hb9 (by omega))
                        clear hb9 m0 m1 m2 m3 m4 f0 f1 f2 f3 f4
                        have r0 : (w9).cell? ⟨w.heap.size, 0, none⟩ = some (.int .i64 0) := HN9.out.cell 0
                        have u0 : (w9).frozen? ⟨w.heap.size, 0, none⟩ = false := HN9.out.frozen 0
                        have r1 : (w9).cell? ⟨w.heap.size, 1, none⟩ = some (.string ⟨#[]⟩) := HN9.out.cell 1
                        have u1 : (w9).frozen? ⟨w.heap.size, 1, none⟩ = false := HN9.out.frozen 1
                        have r2 : (w9).cell? ⟨w.heap.size, 2, none⟩ = some (.string ⟨#[]⟩) := HN9.out.cell 2
                        have u2 : (w9).frozen? ⟨w.heap.size, 2, none⟩ = false := HN9.out.frozen 2
                        have r3 : (w9).cell? ⟨w.heap.size, 3, none⟩ = some (.int .i64 0) := HN9.out.cell 3
                        have u3 : (w9).frozen? ⟨w.heap.size, 3, none⟩ = false := HN9.out.frozen 3
                        have r4 : (w9).cell? ⟨w.heap.size, 4, none⟩ = some (.slice none 0 0) := HN9.out.cell 4
                        have u4 : (w9).frozen? ⟨w.heap.size, 4, none⟩ = false := HN9.out.frozen 4
                        have m0 : (w9).cell? ⟨w.heap.size + 1, 0, none⟩ = some (.int .i64 x) := HM9.out.cell 0
                        have f0 : (w9).frozen? ⟨w.heap.size + 1, 0, none⟩ = false := HM9.out.frozen 0
                        have m1 : (w9).cell? ⟨w.heap.size + 1, 1, none⟩ = some (.string t) := HM9.out.cell 1
                        have f1 : (w9).frozen? ⟨w.heap.size + 1, 1, none⟩ = false := HM9.out.frozen 1
                        have m2 : (w9).cell? ⟨w.heap.size + 1, 2, none⟩ = some (.string u) := HM9.out.cell 2
                        have f2 : (w9).frozen? ⟨w.heap.size + 1, 2, none⟩ = false := HM9.out.frozen 2
                        have m3 : (w9).cell? ⟨w.heap.size + 1, 3, none⟩ = some (.int .i64 z) := HM9.out.cell 3
                        have f3 : (w9).frozen? ⟨w.heap.size + 1, 3, none⟩ = false := HM9.out.frozen 3
                        have m4 : (w9).cell? ⟨w.heap.size + 1, 4, none⟩ = some (.slice A acc.length cur) := HM9.out.cell 4
                        have f4 : (w9).frozen? ⟨w.heap.size + 1, 4, none⟩ = false := HM9.out.frozen 4
                        go_wp2
                        refine bodyPost_ret (v := .tuple #[.agg #[.int .i64 0, .string ⟨#[]⟩, .string ⟨#[]⟩, .int .i64 0, .slice none 0 0], .int .i64 4]) (by simp [results, Tryd.results24, go_sem, r0, r1, r2, r3, r4]) rfl ?_
                        exact dec_out HX.out (below5 HB9.out _ _ _ _ _)
                      | true =>
                        rw [hg] at HCK
                        have HX := Lib.hid (show decS s = (⟨x, t, u, z, acc⟩, 0) by rw [HDG2.out, if_pos hg])
                        clear hg HDG2
                        go_wp2_with fail
                        refine HCK.out.mono ?_
                        rintro e w9 ⟨rfl, hb9⟩
                        have HB9 := Lib.hid (HB.out.trans (hb9.mono HB.out.size))
                        have HN9 := Lib.hid (Blk.below HNO.out hb9 (by omega))
                        have HM9 := Lib.hid (Blk.below HM.out hb9 (by omega))
                        have HS9 := Lib.hid (show 0 < acc.length → ∃ g, A = some ⟨g, 0, none⟩ ∧ w.heap.size + 2 ≤ g ∧ g < w9.heap.size ∧ ∀ (j : Nat) (u : ByteArray), acc[j]? = some u → w9.cell? ⟨g, 0 + j, none⟩ = some (.string u) from fun h => by
                          obtain ⟨g, q1, q2, q3, q4⟩ := HST.out h
                          exact ⟨g, q1, q2, Nat.lt_of_lt_of_le q3 hb9.size, fun j u hj => (hb9.cell (p := ⟨g, 0 + j, none⟩) q3).trans (q4 j u hj)⟩)
                        clear hb9 m0 m1 m2 m3 m4 f0 f1 f2 f3 f4
                        have r0 : (w9).cell? ⟨w.heap.size, 0, none⟩ = some (.int .i64 0) := HN9.out.cell 0
                        have u0 : (w9).frozen? ⟨w.heap.size, 0, none⟩ = false := HN9.out.frozen 0
                        have r1 : (w9).cell? ⟨w.heap.size, 1, none⟩ = some (.string ⟨#[]⟩) := HN9.out.cell 1
                        have u1 : (w9).frozen? ⟨w.heap.size, 1, none⟩ = false := HN9.out.frozen 1
                        have r2 : (w9).cell? ⟨w.heap.size, 2, none⟩ = some (.string ⟨#[]⟩) := HN9.out.cell 2
                        have u2 : (w9).frozen? ⟨w.heap.size, 2, none⟩ = false := HN9.out.frozen 2
                        have r3 : (w9).cell? ⟨w.heap.size, 3, none⟩ = some (.int .i64 0) := HN9.out.cell 3
                        have u3 : (w9).frozen? ⟨w.heap.size, 3, none⟩ = false := HN9.out.frozen 3
                        have r4 : (w9).cell? ⟨w.heap.size, 4, none⟩ = some (.slice none 0 0) := HN9.out.cell 4
                        have u4 : (w9).frozen? ⟨w.heap.size, 4, none⟩ = false := HN9.out.frozen 4
                        have m0 : (w9).cell? ⟨w.heap.size + 1, 0, none⟩ = some (.int .i64 x) := HM9.out.cell 0
                        have f0 : (w9).frozen? ⟨w.heap.size + 1, 0, none⟩ = false := HM9.out.frozen 0
                        have m1 : (w9).cell? ⟨w.heap.size + 1, 1, none⟩ = some (.string t) := HM9.out.cell 1
                        have f1 : (w9).frozen? ⟨w.heap.size + 1, 1, none⟩ = false := HM9.out.frozen 1
                        have m2 : (w9).cell? ⟨w.heap.size + 1, 2, none⟩ = some (.string u) := HM9.out.cell 2
                        have f2 : (w9).frozen? ⟨w.heap.size + 1, 2, none⟩ = false := HM9.out.frozen 2
                        have m3 : (w9).cell? ⟨w.heap.size + 1, 3, none⟩ = some (.int .i64 z) := HM9.out.cell 3
                        have f3 : (w9).frozen? ⟨w.heap.size + 1, 3, none⟩ = false := HM9.out.frozen 3
                        have m4 : (w9).cell? ⟨w.heap.size + 1, 4, none⟩ = some (.slice A acc.length cur) := HM9.out.cell 4
                        have f4 : (w9).frozen? ⟨w.heap.size + 1, 4, none⟩ = false := HM9.out.frozen 4
                        go_wp2
                        refine bodyPost_ret (v := .tuple #[.agg #[.int .i64 x, .string t, .string u, .int .i64 z, .slice A acc.length cur], .int .i64 0]) (by simp [results, Tryd.results24, go_sem, r0, r1, r2, r3, r4]) rfl ?_
                        refine ⟨A, cur, by rw [HX.out]; rfl, ?_, below5 HB9.out _ _ _ _ _, by rw [HX.out]; exact HLE, by rw [HX.out]; simp only; omega⟩
                        rw [HX.out]
                        intro hl
                        obtain ⟨g, q1, q2, q3, q4⟩ := HS9.out hl
                        refine ⟨g, 0, q1, by simp; exact q3, fun j u hj => ?_⟩
                        rw [← q4 j u hj]
                        refine World.cell?_of_block ?_
                        rw [Below.heap_setCell _ _ _ _ (by simp; omega), Below.heap_setCell _ _ _ _ (by simp; omega), Below.heap_setCell _ _ _ _ (by simp; omega), Below.heap_setCell _ _ _ _ (by simp; omega), Below.heap_setCell _ _ _ _ (by simp; omega)]
                    · obtain ⟨k, rfl⟩ : ∃ j, k = j + 1 := ⟨k - 1, by omega⟩
                      have hz32 : ¬ s'.size < 32 := by omega
                      have HT := Lib.hid (show takS s' false 32 = (s'.extract 0 32, s'.extract 32 s'.size, false) from if_neg hz32)
                      have HL := Lib.hid (show (loopS (k + 1) s' false).1 = s'.extract 0 32 :: (loopS k (s'.extract 32 s'.size) false).1 by
                        simp only [loopS, HT.out]
                        simp)
                      have hsz2 : (s'.extract 32 s'.size).size = 32 * k := by simp only [ByteArray.size_extract]; omega
                      rw [decide_eq_false (show ¬ s'.size = 0 by omega)] at hem
                      have h32 : (32 : Int) ≤ (s'.size : Int) := by omega
                      have c4 : wr.cell? ⟨w.heap.size + 1, 4, none⟩ = some (.slice A acc.length cur) := HM.out.cell 4
                      have HSK := Lib.hid hsk
                      have HSK2 := Lib.hid hsz2
                      have c4a : (wr.alloc (.cells #[.string (s'.extract 0 32)] 9)).cell? ⟨w.heap.size + 1, 4, none⟩ = some (.slice A acc.length cur) := (HM.out.alloc _).cell 4
                      clear hz32 hsk hsz2
                      go_upto_region 21 with fail
                      go_region_law (first
                        | (refine step_append_lies _ (by rfl) _ _ _ (by rfl) (w.heap.size + 2) 9 i0 _ 1 16 Tryd.underlying22 hi0 hz0' hz1 hz2 rfl (by decide) (.slice A acc.length cur) acc.length (strsV acc) (by rfl) (hown.drew.alloc _) ⟨wr.heap.size, 0, none⟩ 1 1 [.string (s'.extract 0 32)] (by rfl) (by rfl) (World.news_of_block (cs := #[.string (s'.extract 0 32)]) (heap_alloc_new wr.drew _)) (by simp [Value.oneCell']) (by decide) (by unfold maxLen; omega) (by omega) (by simp; omega) _ rfl ?_; intro g cap w5' hown5 hg5 hat hlt; have hM5 := (HM.out.drew.alloc (.cells #[.string (s'.extract 0 32)] 9)).grown hg5 (own_ne hown (by omega)); have c5 : w5'.cell? ⟨w.heap.size + 1, 4, none⟩ = some (.slice A acc.length cur) := hM5.cell 4; have f5 := hM5.frozen 4))
                      all_goals
                        have HM5 := Lib.hid (hM5.set_ 4 (.slice (some ⟨g, 0, none⟩) (acc.length + 1) cap))
                        have HN5 := Lib.hid ((((Blk.drew HNO.out).alloc (.cells #[.string (s'.extract 0 32)] 9)).grown hg5 (own_ne hown (by omega))).far (p := ⟨w.heap.size + 1, 4, none⟩) (by simp) (.slice (some ⟨g, 0, none⟩) (acc.length + 1) cap))
                        have HB5 := Lib.hid ((((HB.out.drew.alloc (by show w.heap.size ≤ wr.heap.size; omega) (.cells #[.string (s'.extract 0 32)] 9)).grown hg5 (by simp; omega) (fun j hj => by have := (hown.lt j hj).1; omega)).setCell (p := ⟨w.heap.size + 1, 4, none⟩) (by simp) (.slice (some ⟨g, 0, none⟩) (acc.length + 1) cap)))
                        have HO5 := Lib.hid (hown5.kept (Only.set (w.heap.size + 1) 4 w5' (.slice (some ⟨g, 0, none⟩) (acc.length + 1) cap)).grown (own_far hown5 (by omega)))
                        have HZ5 := Lib.hid (show w.heap.size + 2 ≤ w5'.heap.size from Nat.le_trans (by simp; omega) hg5.size)
                        clear hM5 hown5 hg5 hat c4 c4a c5 f5 hown
                        go_wp2
                        go_roundw
                        case rel =>
                          refine ⟨k, cap, acc ++ [s'.extract 0 32], some ⟨g, 0, none⟩, s'.extract 32 s'.size, rfl, HSK2.out, ?_, ?_, HN5.out, HB5.out, ?_, by simp; omega, by simp only [ByteArray.size_extract]; omega, by rw [World.size_setCell]; exact HZ5.out⟩
                          · have := HM5.out
                            simpa using this
                          · have := HO5.out
                            simpa [strsV] using this
                          · rw [List.append_assoc, List.singleton_append, ← HL.out]; exact HN.out
                        case measure => simp only [ByteArray.size_extract]; omega
end Go.Proofs.YtbjompcaekbjoaaDoor
