/- A tree's nodes: awake of layer 12, and Few. -/
import Derived.Test.YtaoejgnfoecpfaaDoorNs
import Derived.Test.YtaoejgnfoecpfaaDoorNu
import Derived.Test.YtaoejgnfoecpfaaDoorNo
namespace Go.Proofs.YtaoejgnfoecpfaaDoor
open Go.RowKit

def n12 : Nr := ⟨1, ⟨#[97]⟩, 5, 9, 0, [], noB⟩
theorem chk12 : chkN [n12] = 0 := by decide +kernel
theorem enc12 : ((encS [n12]).toList == [1, 1, 1, 97, 5, 9]) = true := by decide +kernel
theorem dec12 : (decN ⟨#[0]⟩).1.length = 0 ∧ (decN ⟨#[0]⟩).2 = 0 := by decide +kernel
theorem sfew_any (s : ByteArray) (n : Nat) (w : World) : Calls Tryd.prog 22 #[.string s, .int .i64 n] w fun e w' => e = .returned (.string (s.extract 0 n)) ∧ w = w' := by
  by_cases h : n < s.size
  · have h1 : (n : Int) < (s.size : Int) := by omega
    go_enter Tryd.func22, Tryd.ntmps22
    go_wp2
    go_ret
    exact ⟨rfl, rfl⟩
  · have h1 : ¬ (n : Int) < (s.size : Int) := by omega
    have HE := Lib.hid (show s.extract 0 n = s by
      apply ba_inj
      rw [ext_take, List.take_of_length_le (by rw [ba_len]; omega)])
    go_enter Tryd.func22, Tryd.ntmps22
    go_wp2
    go_ret
    exact ⟨by rw [HE.out]; rfl, rfl⟩
theorem drop12 (s : ByteArray) (w : World) (he : Env w) (hs : s.size ≤ 1099511627776) (hk : (decN s).1.length = 0 ∧ (decN s).2 = 0) : Calls Tryd.prog 19 #[.string s] w fun e w' => ∃ A c, e = .returned (.tuple #[.slice A 0 c, .int .i64 0]) ∧ Below w.heap.size w w' :=
  (ndecode_any s w he hs).mono fun e w' ⟨A, c, h1, _, h3⟩ => ⟨A, c, by rw [h1, hk.1, hk.2]; rfl, h3⟩
set_option maxRecDepth 100000 in
set_option maxHeartbeats 800000 in
theorem awake12_any (w : World) (he : Env w) : Calls Tryd.prog 24 #[] w fun e w' => e = .returned (.bool true) ∧ Below w.heap.size w w' := by
  have hb0 : Below w.heap.size w (w.alloc (.cells #[folV ⟨#[97]⟩ 5 9] 35)) := (Below.refl _ w).alloc (Nat.le_refl _) _
  have HE := Lib.hid fun W (hb : Below w.heap.size w W) => he.below hb
  have HB0 := Lib.hid hb0
  have hst : NodesA (w.alloc (.cells #[folV ⟨#[97]⟩ 5 9] 35)) (some ⟨w.heap.size, 0, none⟩) [n12] := fun _ => ⟨w.heap.size, 0, rfl, by simp, fun j u hj => by
    have hc := (Blk.new w 35 #[folV ⟨#[97]⟩ 5 9]).cell j
    rw [Nat.zero_add, hc]
    match j, hj with
    | 0, hj => 
      simp at hj
      subst hj
      exact ⟨_, rfl, .inl ⟨rfl, rfl⟩⟩
    | j + 1, hj => simp at hj⟩
  have h1 := nencode_any [n12] (some ⟨w.heap.size, 0, none⟩) 1 _ (he.below hb0) hst (fun x hx => by
    obtain rfl := List.mem_singleton.1 hx
    exact ⟨by decide, by decide, by decide, by decide, by decide, by decide, by decide⟩) (by decide)
  rw [chk12] at h1
  rw [show [n12].length = 1 from rfl, show (((0 : Nat) : Nat) : Int) = 0 from rfl] at h1
  have e1 := enc12
  generalize encS [n12] = S at *
  have H1 := Lib.hid h1
  have H2 := Lib.hid fun W (h : Env W) => drop12 ⟨#[0]⟩ W h (by decide) dec12
  have H3 := Lib.hid fun W => kind_any (symV ⟨#[]⟩ 0 0 ⟨#[]⟩) ⟨3, ⟨#[]⟩, 0, 0, 0, [], ⟨#[]⟩⟩ W (.inr (.inr (.inl ⟨rfl, rfl⟩)))
  unfold folV at H1 HB0
  unfold symV at H3
  rw [show kindR ⟨3, ⟨#[]⟩, 0, 0, 0, [], ⟨#[]⟩⟩ = 3 from rfl] at H3
  clear h1 hst hb0 he
  go_enter Tryd.func24, Tryd.ntmps24
  go_wp2_with fail
  refine H1.out.mono ?_
  rintro e w1 ⟨rfl, hb1⟩
  have g1 := HB0.out.trans (hb1.mono HB0.out.size)
  go_wp2_with fail
  refine (H2.out w1 (HE.out _ g1)).mono ?_
  rintro e w2 ⟨A, c, rfl, hb2⟩
  have g2 := g1.trans (hb2.mono g1.size)
  go_wp2_with fail
  refine (H3.out _).mono ?_
  rintro e w3 ⟨rfl, rfl⟩
  go_wp2
  go_ret
  exact ⟨rfl, g2⟩
end Go.Proofs.YtaoejgnfoecpfaaDoor
