/- Manifests: awake of layer 19. -/
import Derived.Test.YtbjompcaekbjoaaDoorMg
namespace Go.Proofs.YtbjompcaekbjoaaDoor
open Go.RowKit

def m19 : Man := ⟨5, ⟨#[]⟩, ⟨#[]⟩, 1, [⟨#[48, 49, 50, 51, 52, 53, 54, 55, 56, 57, 48, 49, 50, 51, 52, 53, 54, 55, 56, 57, 48, 49, 50, 51, 52, 53, 54, 55, 56, 57, 48, 49]⟩]⟩
theorem enc19 : ((encR m19).1.toList == ((⟨#[115, 110, 97, 112, 5, 0, 0, 1, 1]⟩ : ByteArray) ++ ⟨#[48, 49, 50, 51, 52, 53, 54, 55, 56, 57, 48, 49, 50, 51, 52, 53, 54, 55, 56, 57, 48, 49, 50, 51, 52, 53, 54, 55, 56, 57, 48, 49]⟩).toList) = true ∧ (encR m19).2 = 0 := by decide +kernel
theorem dec19 : (decS ⟨#[115, 110, 97, 112]⟩).2 = 3 := by decide +kernel
theorem drop19 (s : ByteArray) (w : World) (he : Env w) (hs : s.size ≤ 1099511627776) (k : Int) (hk : (decS s).2 = k) : Calls Tryd.prog 20 #[.string s] w fun e w' => ∃ t0 t1 t2 t3 A n c, e = .returned (.tuple #[.agg #[.int .i64 t0, .string t1, .string t2, .int .i64 t3, .slice A n c], .int .i64 k]) ∧ Below w.heap.size w w' :=
  (mdecode_any s w he hs).mono fun e w' ⟨A, c, h1, _, h3, _⟩ => ⟨(decS s).1.time, (decS s).1.tag, (decS s).1.parent, (decS s).1.size, A, (decS s).1.chunks.length, c, by rw [h1, hk]; rfl, h3⟩
set_option maxRecDepth 100000 in
set_option maxHeartbeats 800000 in
theorem awake19_any (w : World) (he : Env w) : Calls Tryd.prog 18 #[] w fun e w' => e = .returned (.bool true) ∧ Below w.heap.size w w' := by
  have hb0 : Below w.heap.size w (w.alloc (.cells #[.string ⟨#[48, 49, 50, 51, 52, 53, 54, 55, 56, 57, 48, 49, 50, 51, 52, 53, 54, 55, 56, 57, 48, 49, 50, 51, 52, 53, 54, 55, 56, 57, 48, 49]⟩] 9)) := (Below.refl _ w).alloc (Nat.le_refl _) _
  have HE := Lib.hid fun W (hb : Below w.heap.size w W) => he.below hb
  have HB0 := Lib.hid hb0
  have hst : StrsA (w.alloc (.cells #[.string ⟨#[48, 49, 50, 51, 52, 53, 54, 55, 56, 57, 48, 49, 50, 51, 52, 53, 54, 55, 56, 57, 48, 49, 50, 51, 52, 53, 54, 55, 56, 57, 48, 49]⟩] 9)) (w.alloc (.cells #[.string ⟨#[48, 49, 50, 51, 52, 53, 54, 55, 56, 57, 48, 49, 50, 51, 52, 53, 54, 55, 56, 57, 48, 49, 50, 51, 52, 53, 54, 55, 56, 57, 48, 49]⟩] 9)).heap.size (some ⟨w.heap.size, 0, none⟩) m19.chunks := fun _ => ⟨w.heap.size, 0, rfl, by simp, fun j u hj => by
    have hc := (Blk.new w 9 #[.string ⟨#[48, 49, 50, 51, 52, 53, 54, 55, 56, 57, 48, 49, 50, 51, 52, 53, 54, 55, 56, 57, 48, 49, 50, 51, 52, 53, 54, 55, 56, 57, 48, 49]⟩]).cell j
    rw [Nat.zero_add, hc]
    match j, hj with
    | 0, hj => simp [m19] at hj; simp [← hj]
    | j + 1, hj => simp [m19] at hj⟩
  have h1 := mencode_any m19 (some ⟨w.heap.size, 0, none⟩) 1 _ (he.below hb0) hst ⟨by decide, by decide, by decide, by decide, by decide, by decide, by decide⟩ (by decide)
  obtain ⟨e1, e2⟩ := enc19
  rw [e2] at h1
  generalize (encR m19).1 = S at *
  unfold manV m19 at h1
  have H1 := Lib.hid h1
  have H2 := Lib.hid fun W (h : Env W) => drop19 ⟨#[115, 110, 97, 112]⟩ W h (by decide) 3 dec19
  have y1 := fun W => run_string_add_sum (P := Tryd.prog) W ⟨#[115, 110, 97, 112, 5, 0, 0, 1, 1]⟩ ⟨#[48, 49, 50, 51, 52, 53, 54, 55, 56, 57, 48, 49, 50, 51, 52, 53, 54, 55, 56, 57, 48, 49, 50, 51, 52, 53, 54, 55, 56, 57, 48, 49]⟩ (by decide)
  clear h1 hst hb0 he e2
  go_enter Tryd.func18, Tryd.ntmps18
  go_wp2_with fail
  refine H1.out.mono ?_
  rintro e w1 ⟨rfl, hb1⟩
  have g1 := HB0.out.trans (hb1.mono HB0.out.size)
  go_wp2_with fail
  refine (H2.out w1 (HE.out _ g1)).mono ?_
  rintro e w2 ⟨t0, t1, t2, t3, A, n, c, rfl, hb2⟩
  have g2 := g1.trans (hb2.mono g1.size)
  go_wp2
  go_ret
  exact ⟨rfl, (g2.alloc g2.size _)⟩
end Go.Proofs.YtbjompcaekbjoaaDoor
