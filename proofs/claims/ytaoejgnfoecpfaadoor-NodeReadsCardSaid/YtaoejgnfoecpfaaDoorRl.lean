/- The parts of a text: strings.Split's are the document's; comparing. -/
import Derived.Test.YtaoejgnfoecpfaaDoorRk
namespace Go.Proofs.YtaoejgnfoecpfaaDoor
open Go.RowKit

theorem idx_none : ∀ l : List UInt8, Lib.index l [47] = -1 → splitL l = [l]
  | [], _ => rfl
  | b :: l, h => by
    have hb : b ≠ 47 := by
      rintro rfl
      simp [Lib.index, List.isPrefixOf] at h
    have hp : ([47] : List UInt8).isPrefixOf (b :: l) = false := by simp [List.isPrefixOf]; exact fun e => hb e.symm
    have hl : Lib.index l [47] = -1 := by
      unfold Lib.index at h
      rw [hp] at h
      by_cases hq : Lib.index l [47] = -1
      · exact hq
      · have := Lib.index_ge l [47]
        simp [hq] at h
        omega
    rw [splitL_other hb, idx_none l hl]
    rfl
theorem idx_some : ∀ (l : List UInt8) (i : Nat), Lib.index l [47] = i → splitL l = l.take i :: splitL (l.drop (i + 1))
  | [], i, h => by
    exfalso
    simp [Lib.index] at h
  | b :: l, i, h => by
    by_cases hb : b = 47
    · subst hb
      have : i = 0 := by
        simp [Lib.index, List.isPrefixOf] at h
        omega
      subst this
      rw [splitL_slash]
      simp
    · have hp : ([47] : List UInt8).isPrefixOf (b :: l) = false := by simp [List.isPrefixOf]; exact fun e => hb e.symm
      unfold Lib.index at h
      rw [hp] at h
      have hg := Lib.index_ge l [47]
      by_cases hq : Lib.index l [47] = -1
      · simp [hq] at h
      · simp [hq] at h
        obtain ⟨j, rfl⟩ : ∃ j, i = j + 1 := ⟨i - 1, by omega⟩
        have hl : Lib.index l [47] = (j : Nat) := by omega
        rw [splitL_other hb, idx_some l j hl]
        rfl
/-- the parts, as texts -/
def partsP (s : ByteArray) : List ByteArray := (partsR s).map strB
theorem slash_list : slash.data.toList = [47] := rfl
theorem strB_self (s : ByteArray) : strB s.data.toList = s := by
  apply ByteArray.ext
  simp [strB]
theorem partsP_none (s : ByteArray) (h : Lib.indexB s slash = -1) : partsP s = [s] := by
  unfold partsP partsR
  rw [idx_none _ h]
  simp [strB_self]
theorem partsP_some (s : ByteArray) (i : Nat) (h : Lib.indexB s slash = i) : partsP s = s.extract 0 i :: partsP (s.extract (i + 1) s.size) := by
  unfold partsP partsR
  rw [idx_some _ i h, List.map_cons, Lib.extract_to_end]
  congr 1
  apply ByteArray.ext
  apply Array.toList_inj.1
  rw [Lib.extract_from_zero]
  simp [strB]
theorem partsP_ne (s : ByteArray) : 1 ≤ (partsP s).length := by
  unfold partsP partsR
  have := splitL_ne s.data.toList
  cases h : splitL s.data.toList with
  | nil => exact absurd h this
  | cons a t => simp
/-- strings.Split's parts -/
theorem split_parts : ∀ (n : Nat) (s : ByteArray), s.size ≤ n → Lib.splitB slash 0 (Lib.countB s slash) s = partsP s ∧ (partsP s).length = Lib.countB s slash + 1
  | n, s, hn => by
    rcases Lib.indexB_cases s slash with h | ⟨i, h, hi⟩
    · rw [Lib.countB_miss _ _ h, partsP_none s h]
      exact ⟨rfl, rfl⟩
    · have hi1 : i + 1 ≤ s.size := hi
      cases n with
      | zero => omega
      | succ n =>
        have hz : (s.extract (i + 1) s.size).size ≤ n := by rw [ByteArray.size_extract]; omega
        obtain ⟨h1, h2⟩ := split_parts n _ hz
        rw [Lib.countB_hit s slash i (by decide) h, partsP_some s i h]
        rw [Nat.add_comm 1, Lib.splitB_hit slash 0 _ s i h]
        exact ⟨by rw [Nat.add_zero, show slash.size = 1 from rfl, h1], by rw [List.length_cons, h2]; rfl⟩
/-- all parts are names -/
theorem allFrom_parts : ∀ (f : Nat) (s : ByteArray), s.size ≤ f → allFrom f s = (partsP s).all nameOk
  | f, s, hf => by
    rcases Lib.indexB_cases s slash with h | ⟨i, h, hi⟩
    · rw [allFrom_last f s h, partsP_none s h]; simp
    · have hi1 : i + 1 ≤ s.size := hi
      cases f with
      | zero => omega
      | succ f =>
        rw [partsP_some s i h, List.all_cons]
        simp only [allFrom]
        rw [if_neg (by omega), h]
        have hz : (s.extract (i + 1) s.size).size ≤ f := by rw [ByteArray.size_extract]; omega
        have := allFrom_parts f _ hz
        simp only [Int.toNat_natCast]
        rw [this]
theorem isPath_parts (s : ByteArray) : isPath s = (decide (s.size ≤ 200) && decide ((partsP s).length ≤ 8) && (partsP s).all nameOk) := by
  unfold isPath
  rw [allFrom_parts s.size s (Nat.le_refl _), (split_parts s.size s (Nat.le_refl _)).2]
  congr 2

theorem strRow_new (W : World) (xs : List ByteArray) : StrRow (W.alloc (.cells (xs.map Value.string).toArray 9)) W.heap.size xs := fun j u hj => by
  have := World.alloc_heap_new W (.cells (xs.map Value.string).toArray 9)
  unfold World.cell?
  dsimp only
  rw [this]
  simp [hj]
set_option maxRecDepth 100000 in
set_option maxHeartbeats 800000 in
theorem pcompare_any (a b : ByteArray) (w : World) (he : Env w) (ha : a.size ≤ 1000000) (hb : b.size ≤ 1000000) :
    Calls Tryd.prog 88 #[.string a, .string b] w fun e w' => e = .returned (.int .i64 (cmpL (partsP a) (partsP b))) ∧ Below w.heap.size w w' := by
  obtain ⟨⟨m, hm⟩, _⟩ := he
  obtain ⟨a1, a2⟩ := split_parts a.size a (Nat.le_refl _)
  obtain ⟨b1, b2⟩ := split_parts b.size b (Nat.le_refl _)
  have hca : Lib.countB a slash ≤ a.size + 1 := by unfold Lib.countB; exact Lib.count_le _ _
  have hcb : Lib.countB b slash ≤ b.size + 1 := by unfold Lib.countB; exact Lib.count_le _ _
  have h1 := Tryd.strings_Split a slash m w (by omega) hm (by decide)
  rw [a1, ← a2] at h1
  have hw1 : Below w.heap.size w (w.alloc (.cells ((partsP a).map Value.string).toArray 9)) := (Below.refl _ w).alloc (Nat.le_refl _) _
  have hm1 := (hw1.cell (p := ⟨0, 0, none⟩) (cellLt hm)).trans hm
  have h2 := Tryd.strings_Split b slash m _ (by omega) hm1 (by decide)
  rw [b1, ← b2] at h2
  have hA := partsP_ne a
  have hB := partsP_ne b
  have hz1 : (w.alloc (.cells ((partsP a).map Value.string).toArray 9)).heap.size = w.heap.size + 1 := by simp
  have hr1 : StrRow ((w.alloc (.cells ((partsP a).map Value.string).toArray 9)).alloc (.cells ((partsP b).map Value.string).toArray 9)) w.heap.size (partsP a) := fun j u hj => by
    rw [((Below.refl (w.heap.size + 1) (w.alloc (.cells ((partsP a).map Value.string).toArray 9))).alloc (by simp) _).cell (p := ⟨w.heap.size, j, none⟩) (by simp)]
    exact strRow_new w (partsP a) j u hj
  have hr2 : StrRow ((w.alloc (.cells ((partsP a).map Value.string).toArray 9)).alloc (.cells ((partsP b).map Value.string).toArray 9)) (w.alloc (.cells ((partsP a).map Value.string).toArray 9)).heap.size (partsP b) := fun j u hj => strRow_new _ (partsP b) j u hj
  have hb2 : Below w.heap.size w ((w.alloc (.cells ((partsP a).map Value.string).toArray 9)).alloc (.cells ((partsP b).map Value.string).toArray 9)) := hw1.alloc (by simp) _
  have h3 := slcmp_any (partsP a) (partsP b) w.heap.size _ (partsP a).length (partsP b).length _ hr1 hr2 (by omega) (by omega)
  unfold slash at h1 h2
  rw [hz1] at h2 h3
  have H1 := Lib.hid h1
  have H2 := Lib.hid h2
  have H3 := Lib.hid h3
  have HB2 := Lib.hid hb2
  clear h1 h2 h3 hb2 hr1 hr2 hm1 hm hw1 a1 b1 a2 b2 hz1 hca hcb hA hB ha hb
  go_enter Tryd.func88, Tryd.ntmps88
  go_wp2_with fail
  refine H1.out.mono ?_
  rintro e w1 ⟨rfl, rfl⟩
  go_wp2_with fail
  refine H2.out.mono ?_
  rintro e w1 ⟨rfl, rfl⟩
  go_wp2_with fail
  refine H3.out.mono ?_
  rintro e w1 ⟨rfl, rfl⟩
  go_wp2
  go_ret
  exact ⟨rfl, HB2.out⟩
end Go.Proofs.YtaoejgnfoecpfaaDoor
