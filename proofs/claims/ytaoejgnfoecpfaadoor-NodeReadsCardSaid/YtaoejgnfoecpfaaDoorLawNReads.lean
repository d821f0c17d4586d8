/- NodeReads, walked. -/
import Derived.Test.YtaoejgnfoecpfaaDoorNv
namespace Go.Proofs.YtaoejgnfoecpfaaDoor
open Go.RowKit

theorem decN_bad {s : ByteArray} (h : (decN s).2 ≠ 0) : (decN s).1 = [] := by
  rcases h1 : numE s 0 with ⟨n, s1, e1⟩
  by_cases h2 : e1 = 0 ∧ 200 < n
  · rw [decN_big h1 h2]
  rcases h3 : nodesE n s1 e1 with ⟨l, s2, e2⟩
  rw [decN_of h1 h2 h3] at h ⊢
  unfold endN at h ⊢
  repeat' split
  all_goals first
    | rfl
    | simp_all
set_option maxRecDepth 100000 in
set_option maxHeartbeats 1600000 in
theorem reads_all (s : ByteArray) (w : World) (he : Env w) :
    Calls Tryd.prog 4 #[.string s] w fun e w' => e = .returned (.bool true) ∧ Below w.heap.size w w' := by
  have HE := Lib.hid fun W (hb : Below w.heap.size w W) => he.below hb
  have HFW := Lib.hid fun W => sfew_any s 2000 W
  have hs0 : (s.extract 0 2000).size ≤ 2000 := by simp only [ByteArray.size_extract]; omega
  have HAW := Lib.hid fun W (h : Env W) => awake12_any W h
  clear he
  go_enter Tryd.func4, Tryd.ntmps4
  go_wp2_with fail
  refine (HFW.out _).mono ?_
  rintro e w1 ⟨rfl, rfl⟩
  generalize s.extract 0 2000 = t at *
  go_wp2_with fail
  refine (ndecode_any t _ (HE.out _ (Below.refl _ _)) (by omega)).mono ?_
  rintro e w2 ⟨A, c, rfl, hn2, hb2⟩
  have HN2 := Lib.hid hn2
  have HB2 := Lib.hid hb2
  clear hn2 hb2
  go_wp2_with fail
  refine (nread_any t w2 (by omega)).mono ?_
  rintro e w3 ⟨B, d, rfl, hr3, hb3, hd3⟩
  have HN3 := Lib.hid (HN2.out.below hb3)
  have HR3 := Lib.hid hr3
  have HB3 := Lib.hid (HB2.out.trans (hb3.mono HB2.out.size))
  clear hr3 hb3 HN2 HB2
  go_wp2_with fail
  refine (HAW.out w3 (HE.out _ HB3.out)).mono ?_
  rintro e w4 ⟨rfl, hb4⟩
  have HN4 := Lib.hid (HN3.out.below hb4)
  have HR4 := Lib.hid (HR3.out.below hb4)
  have HB4 := Lib.hid (HB3.out.trans (hb4.mono HB3.out.size))
  clear hb4 HN3 HR3 HB3
  have hfit : (decN t).1.length ≤ 200 ∧ (∀ x ∈ (decN t).1, x.chunks.length ≤ 1000000) ∧ (decN t).1.map tell = (decN t).1 ∧ ((decN t).2 = 0 → bs (encN (decN t).1) = t ∧ ∀ x ∈ (decN t).1, fitN x = 0) := by
    by_cases h0 : (decN t).2 = 0
    · obtain ⟨k1, k2, k3⟩ := decN_back h0 (by omega)
      obtain ⟨k4, k5⟩ := chk_fit k1
      refine ⟨k4, fun x hx => ?_, ?_, fun _ => ⟨k2, k5⟩⟩
      · obtain ⟨kk, _, _, h1, _, _, _, _, _, _, h2, _⟩ := fit_nums (k5 x hx)
        by_cases hk : kk = 2
        · obtain ⟨z, _, h3, h4, _⟩ := h2 hk
          omega
        · rw [((k3 x hx).1 (by omega)).2]
          exact Nat.zero_le _
      · have : ∀ (l : List Nr), (∀ x ∈ l, tell x = x) → l.map tell = l := fun l h => by
          induction l with
          | nil => rfl
          | cons y r ih => rw [List.map_cons, h y (by simp), ih fun x hx => h x (by simp [hx])]
        exact this _ fun x hx => tell_pure (fit_parts (k5 x hx)).1 (k3 x hx)
    · rw [decN_bad h0]
      exact ⟨by simp, by simp, rfl, fun h => absurd h h0⟩
  obtain ⟨k1, k2, k3, k4⟩ := hfit
  have HK4 := Lib.hid k4
  generalize (decN t).2 = f at *
  generalize (decN t).1 = l at *
  clear k4
  go_wp2_with fail
  refine (list_any l A c w4 HN4.out k2 (by omega)).mono ?_
  rintro e w5 ⟨C, g, rfl, hr5, hg5, hb5⟩
  rw [k3] at hr5
  have HR5 := Lib.hid (HR4.out.below hb5)
  have HB5 := Lib.hid (HB4.out.trans (hb5.mono HB4.out.size))
  go_wp2_with fail
  refine (nsame_any l l C B g d w5 hr5 HR5.out (by omega) (fun x hx => Nat.le_trans (k2 x hx) (by decide))).mono ?_
  rintro e w6 ⟨rfl, hb6⟩
  have HR6 := Lib.hid (HR5.out.below hb6)
  have HB6 := Lib.hid (HB5.out.trans (hb6.mono HB5.out.size))
  have hll : decide (l = l) = true := by simp
  clear hb5 hb6 hr5
  by_cases hf : f = 0
  · obtain ⟨k5, k6⟩ := HK4.out hf
    subst hf
    go_wp2_with fail
    refine (ntext_any l B d w6 HR6.out k6 k1).mono ?_
    rintro e w7 ⟨rfl, hb7⟩
    have HB7 := Lib.hid (HB6.out.trans (hb7.mono HB6.out.size))
    rw [k5]
    go_wp2
    go_ret
    exact ⟨rfl, HB7.out⟩
  · have hne : ((f : Int) != 0) = true := by rw [bne_iff_ne]; omega
    go_wp2
    go_ret
    exact ⟨rfl, HB6.out⟩
end Go.Proofs.YtaoejgnfoecpfaaDoor
