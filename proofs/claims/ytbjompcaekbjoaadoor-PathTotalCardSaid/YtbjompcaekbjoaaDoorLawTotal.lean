/- PathTotal, walked. -/
import Derived.Test.YtbjompcaekbjoaaDoorRt
namespace Go.Proofs.YtbjompcaekbjoaaDoor
open Go.RowKit

theorem in_less (a n : ByteArray) : cmpL (partsP a) (partsP (a ++ ⟨#[47]⟩ ++ n)) = -1 := by
  have := partsP_in a n
  unfold inP at this
  rw [this]
  exact cmpL_in _ _ (inP_empty_name n)
theorem in_before (a b n : ByteArray) (h : cmpL (partsP a) (partsP b) = -1) : (a.size < b.size ∧ b.extract 0 (a.size + 1) = a ++ ⟨#[47]⟩) ∨ cmpL (partsP (a ++ ⟨#[47]⟩ ++ n)) (partsP b) = -1 := by
  have := partsP_in a n
  unfold inP at this
  rw [this]
  rcases cmpL_under _ _ h with ⟨t, ht, e⟩ | h2
  · exact .inl (under_text a b ⟨t, ht, e⟩)
  · exact .inr (h2 _)
/-- the orders of three paths -/
def Orders (a b : ByteArray) (ab bc ac ba : Int) : Prop := ba = -ab ∧ (ab = -1 ∨ ab = 0 ∨ ab = 1) ∧ (bc = -1 ∨ bc = 0 ∨ bc = 1) ∧ (ab = 0 ↔ a = b) ∧ (ab ≤ 0 → bc ≤ 0 → ac = min ab bc)
theorem orders_of (a b c : ByteArray) : Orders a b (cmpL (partsP a) (partsP b)) (cmpL (partsP b) (partsP c)) (cmpL (partsP a) (partsP c)) (cmpL (partsP b) (partsP a)) :=
  ⟨cmpL_turn _ _, cmpL_range _ _, cmpL_range _ _, ⟨fun h => partsP_inj ((cmpL_zero _ _).1 h), fun h => (cmpL_zero _ _).2 (by rw [h])⟩, fun h1 h2 => cmpL_min _ _ _ h1 h2⟩
theorem same_text {a b : ByteArray} (h : a = b) : (a.toList == b.toList) = true := by rw [h]; simp
theorem other_text {a b : ByteArray} (h : a ≠ b) : (a.toList == b.toList) = false := by
  rw [beq_eq_false_iff_ne]
  exact fun e => h (ba_eq e)

set_option maxRecDepth 100000 in
set_option maxHeartbeats 3200000 in
theorem total_all (a b c n : ByteArray) (w : World) (he : Env w) : Calls Tryd.prog 6 #[.string a, .string b, .string c, .string n] w fun e w' => e = .returned (.bool true) ∧ Below w.heap.size w w' := by
  have HE := Lib.hid fun W (hb : Below w.heap.size w W) => he.below hb
  have ha := few400_size a
  have hb := few400_size b
  have hc := few400_size c
  have hn := few400_size n
  have H1 := Lib.hid fun W => few11_any a W
  have H2 := Lib.hid fun W => few11_any b W
  have H3 := Lib.hid fun W => few11_any c W
  have H4 := Lib.hid fun W => few11_any n W
  generalize few400 a = a' at *
  generalize few400 b = b' at *
  generalize few400 c = c' at *
  generalize few400 n = n' at *
  have hz1 : a'.size + 1 ≤ 4000 := by omega
  have hz3 : (a' ++ ⟨#[47]⟩).size = a'.size + 1 := by rw [ByteArray.size_append]; rfl
  have hz2 : (a' ++ ⟨#[47]⟩).size + n'.size ≤ 4000 := by omega
  have hz4 : (a' ++ ⟨#[47]⟩ ++ n').size ≤ 4000 := by rw [ByteArray.size_append]; exact hz2
  have H5 := Lib.hid fun W (h : Env W) => pcompare_any a' b' W h (by omega) (by omega)
  have H6 := Lib.hid fun W (h : Env W) => pcompare_any b' c' W h (by omega) (by omega)
  have H7 := Lib.hid fun W (h : Env W) => pcompare_any a' c' W h (by omega) (by omega)
  have H8 := Lib.hid fun W (h : Env W) => pcompare_any b' a' W h (by omega) (by omega)
  have H9 := Lib.hid fun W (h : Env W) => awake11_any W h
  have H10 := Lib.hid fun W (h : Env W) => pcompare_any a' (a' ++ ⟨#[47]⟩ ++ n') W h (by omega) (by omega)
  rw [in_less] at H10
  have H11 := Lib.hid fun W (h : Env W) => pcompare_any (a' ++ ⟨#[47]⟩ ++ n') b' W h (by omega) (by omega)
  have HO := Lib.hid (orders_of a' b' c')
  have HIN := Lib.hid (in_before a' b' n')
  clear hz3 hz4
  have he := Lib.hid he
  generalize cmpL (partsP a') (partsP b') = ab at *
  generalize cmpL (partsP b') (partsP c') = bc at *
  generalize cmpL (partsP a') (partsP c') = ac at *
  generalize cmpL (partsP b') (partsP a') = ba at *
  generalize cmpL (partsP (a' ++ ⟨#[47]⟩ ++ n')) (partsP b') = ib at *
  go_enter Tryd.func6, Tryd.ntmps6
  go_wp2_with fail
  refine (H1.out w).mono ?_
  rintro e w1 ⟨rfl, rfl⟩
  go_wp2_with fail
  refine (H2.out w).mono ?_
  rintro e w1 ⟨rfl, rfl⟩
  go_wp2_with fail
  refine (H3.out w).mono ?_
  rintro e w1 ⟨rfl, rfl⟩
  go_wp2_with fail
  refine (H5.out w (HE.out _ (Below.refl _ _))).mono ?_
  rintro e w1 ⟨rfl, g1⟩
  go_wp2_with fail
  refine (H6.out w1 (HE.out _ g1)).mono ?_
  rintro e w2 ⟨rfl, hb2⟩
  have g2 := g1.trans (hb2.mono g1.size)
  go_wp2_with fail
  refine (H7.out w2 (HE.out _ g2)).mono ?_
  rintro e w3 ⟨rfl, hb3⟩
  have g3 := g2.trans (hb3.mono g2.size)
  go_wp2_with fail
  refine (H8.out w3 (HE.out _ g3)).mono ?_
  rintro e w4 ⟨rfl, hb4⟩
  have g4 := g3.trans (hb4.mono g3.size)
  have HE4 := Lib.hid (HE.out _ g4)
  have HG := Lib.hid g4
  clear g1 g2 g3 g4 hb2 hb3 hb4 H1 H2 H3 H5 H6 H7 H8 HE
  obtain ⟨rfl, h2, h3, h4, h5⟩ := HO.out
  clear HO
  have HX : (ab = 1) ∨ (ab = 0) ∨ (ab = -1 ∧ a'.size < b'.size ∧ b'.extract 0 (a'.size + 1) = a' ++ ⟨#[47]⟩) ∨ (ab = -1 ∧ ¬ a'.size < b'.size ∧ ib = -1) ∨ (ab = -1 ∧ a'.size < b'.size ∧ b'.extract 0 (a'.size + 1) ≠ a' ++ ⟨#[47]⟩ ∧ ib = -1) := by
    rcases h2 with h | h | h
    · rcases HIN.out h with ⟨x1, x2⟩ | x
      · exact .inr (.inr (.inl ⟨h, x1, x2⟩))
      · by_cases y : a'.size < b'.size
        · by_cases z : b'.extract 0 (a'.size + 1) = a' ++ ⟨#[47]⟩
          · exact .inr (.inr (.inl ⟨h, y, z⟩))
          · exact .inr (.inr (.inr (.inr ⟨h, y, z, x⟩)))
        · exact .inr (.inr (.inr (.inl ⟨h, y, x⟩)))
    · exact .inr (.inl h)
    · exact .inl h
  have HY : ab ≤ 0 → (bc = 1 ∨ (bc = 0 ∧ ac = ab) ∨ (bc = -1 ∧ ac = -1)) := by omega
  clear h2 HIN h5 h3
  rcases HX with rfl | rfl | ⟨rfl, x1, x2⟩ | ⟨rfl, x1, rfl⟩ | ⟨rfl, x1, x2, rfl⟩
  case' inr.inl => rcases HY (by decide) with rfl | ⟨rfl, rfl⟩ | ⟨rfl, rfl⟩
  case' inr.inr.inl => rcases HY (by decide) with rfl | ⟨rfl, rfl⟩ | ⟨rfl, rfl⟩
  case' inr.inr.inr.inl => rcases HY (by decide) with rfl | ⟨rfl, rfl⟩ | ⟨rfl, rfl⟩
  case' inr.inr.inr.inr => rcases HY (by decide) with rfl | ⟨rfl, rfl⟩ | ⟨rfl, rfl⟩
  all_goals
    first | have heq := same_text (h4.1 rfl) | have heq := other_text (fun e => by have := h4.2 e; omega)
    clear h4 HY
    first | have hpre := same_text x2 | have hpre := other_text x2 | skip
    first | clear x2 | skip
    go_wp2_with fail
    refine (H4.out _).mono ?_
    rintro e w5 ⟨rfl, rfl⟩
    go_wp2_with fail
    refine (H9.out w4 HE4.out).mono ?_
    rintro e w6 ⟨rfl, hb6⟩
    have g6 := HG.out.trans (hb6.mono HG.out.size)
    have HE6 := Lib.hid ((he.out.below HG.out).below hb6)
    have HG6 := Lib.hid g6
    clear g6 hb6
    go_wp2_with fail
    refine (H10.out w6 HE6.out).mono ?_
    rintro e w7 ⟨rfl, hb7⟩
    have HG7 := Lib.hid (HG6.out.trans (hb7.mono HG6.out.size))
    have HE7 := Lib.hid (HE6.out.below hb7)
    clear hb7
    first
    | (go_wp2
       go_ret
       exact ⟨rfl, HG7.out⟩)
    | (go_wp2_with fail
       refine (H11.out w7 HE7.out).mono ?_
       rintro e w8 ⟨rfl, hb8⟩
       have HG8 := Lib.hid (HG7.out.trans (hb8.mono HG7.out.size))
       clear hb8
       go_wp2
       go_ret
       exact ⟨rfl, HG8.out⟩)
end Go.Proofs.YtbjompcaekbjoaaDoor
