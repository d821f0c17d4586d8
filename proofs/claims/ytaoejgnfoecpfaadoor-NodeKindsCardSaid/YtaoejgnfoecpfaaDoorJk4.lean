/- The document's Parts. The parts of a text: strings.Split's are the document's; comparing. The document's Compare. -/
import Derived.Test.YtaoejgnfoecpfaaDoorJk3
import Derived.Test.YtaoejgnfoecpfaaDoorJk1
namespace Go.Proofs.YtaoejgnfoecpfaaDoor
set_option linter.unusedVariables false
set_option linter.unusedSimpArgs false
set_option linter.unusedSectionVars false
open Go.RowKit

/-- cut at each slash -/
def splitL : List UInt8 → List (List UInt8)
  | [] => [[]]
  | c :: r => if c = 47 then [] :: splitL r else match splitL r with
    | h :: t => (c :: h) :: t
    | [] => [[c]]
/-- the first part lengthened in front -/
def headApp (l : List UInt8) : List (List UInt8) → List (List UInt8)
  | h :: t => (l ++ h) :: t
  | [] => [l]
theorem splitL_ne (l : List UInt8) : splitL l ≠ [] := by
  cases l with
  | nil => simp [splitL]
  | cons c r =>
    unfold splitL
    split
    · simp
    · split <;> simp
theorem splitL_slash (r : List UInt8) : splitL (47 :: r) = [] :: splitL r := by simp [splitL]
theorem splitL_other {c : UInt8} (h : c ≠ 47) (r : List UInt8) : splitL (c :: r) = headApp [c] (splitL r) := by
  simp only [splitL]
  rw [if_neg h]
  have := splitL_ne r
  cases hs : splitL r with
  | nil => exact absurd hs this
  | cons a t => rfl
theorem headApp_app (l m : List UInt8) {x : List (List UInt8)} (h : x ≠ []) : headApp (l ++ m) x = headApp l (headApp m x) := by
  cases x with
  | nil => exact absurd rfl h
  | cons a t => simp [headApp]
def strB (l : List UInt8) : ByteArray := ⟨l.toArray⟩
def partsV (ps : List (List UInt8)) : List Value := ps.map fun p => .string (strB p)
theorem partsV_set (done : List (List UInt8)) (cur nxt : List UInt8) : (partsV (done ++ [cur])).set done.length (.string (strB nxt)) = partsV (done ++ [nxt]) := by
  simp [partsV, List.set_append_right]
theorem strB_snoc (s : ByteArray) (cur : List UInt8) (k : Nat) (h : k < s.size) : strB cur ++ s.extract k (k + 1) = strB (cur ++ [s[k]]) := by
  apply ByteArray.ext
  have e : (s.extract k (k + 1)).data.toList = [s[k]] := by
    have h2 : s.data.toList[k]? = some s[k] := by rw [List.getElem?_eq_getElem (by simpa using h)]; rfl
    simp only [ByteArray.data_extract, Array.toList_extract]
    rw [List.extract_eq_take_drop]
    rw [List.drop_eq_getElem_cons (by simpa using h)]
    simp
    rfl
  rw [ByteArray.data_append]
  apply Array.toList_inj.1
  rw [Array.toList_append, e]
  simp [strB]
def partsR (s : ByteArray) : List (List UInt8) := splitL s.data.toList
theorem infoStr : (Tryd.prog.info? 9).map (fun i => (i.zero, i.size, i.bytes)) = some (some (.string ⟨#[]⟩), 1, 16) := by kernel_rfl

set_option maxRecDepth 100000 in
set_option maxHeartbeats 800000 in
theorem parts_big (s : ByteArray) (w : World) (hs : s.size ≤ 1100000) :
    Calls Tryd.prog 114 #[.string s] w fun e w' => ∃ g cap, e = .returned (.slice (some ⟨g, 0, none⟩) (partsR s).length cap) ∧ w'.ownsRow w.heap.size 9 1 (.slice (some ⟨g, 0, none⟩) (partsR s).length cap) (partsR s).length (partsV (partsR s)) ∧ Below w.heap.size w w' := by
  go_enter Tryd.func114, Tryd.ntmps114
  go_wp2
  go_loopw [3, 4] (fun v i wr => ∃ (g cap k : Nat) (done : List (List UInt8)) (cur : List UInt8), v = .slice (some ⟨g, 0, none⟩) (done.length + 1 : Nat) cap ∧ i = .int .i64 (k : Nat) ∧ k ≤ s.size ∧ wr.ownsRow w.heap.size 9 1 (.slice (some ⟨g, 0, none⟩) (done.length + 1) cap) (done.length + 1) (partsV (done ++ [cur])) ∧ Below w.heap.size w wr ∧ done ++ headApp cur (splitL (s.data.toList.drop k)) = partsR s ∧ done.length ≤ k ∧ cur.length ≤ k) (fun _ i _ => s.size - (intOf i).toNat)
  case atStart =>
    refine ⟨w.heap.size, 1, 0, [], [], rfl, rfl, by omega, ?_, (Below.refl _ w).alloc (Nat.le_refl _) _, ?_, by simp, by simp⟩
    · exact World.ownsRow_lit w #[.string ⟨#[]⟩] 1 (Nat.le_refl _) (by decide) rfl
    · have := splitL_ne s.data.toList
      unfold partsR
      cases hq : splitL s.data.toList with
      | nil => exact absurd hq this
      | cons c r => simp [headApp, hq]
  case round =>
    obtain ⟨g, cap, k, done, cur, rfl, rfl, hk, hown, hb, hn, hd, hcl⟩ := hrel
    have HN := Lib.hid hn
    have HOWN := Lib.hid hown
    have hsz := hb.size
    clear hn
    by_cases hlt : k < s.size
    · have HDR := Lib.hid (show s.data.toList.drop k = s[k] :: s.data.toList.drop (k + 1) from List.drop_eq_getElem_cons (by simpa using hlt))
      by_cases h47 : s[k] = 47
      · have hq : (s[k].toNat : Int) = 47 := by rw [h47]; rfl
        go_wp2_with (at_builtin; refine wpList_app1 rfl _ _ 50 rfl w.heap.size 9 Tryd.underlying50 infoStr rfl (by decide) _ _ _ rfl hown _ rfl rfl (oneCell_string _) ?_ ?_ ?_ ?_; omega; omega; omega; intro g1 cap1 w5 hown' hgr hbw _)
        go_roundw
        case rel =>
          refine ⟨g1, cap1, k + 1, done ++ [cur], [], by simp, by go_num, by omega, ?_, hb.trans hbw, ?_, by simp; omega, by simp⟩
          · have e : partsV ((done ++ [cur]) ++ [[]]) = partsV (done ++ [cur]) ++ [.string ⟨#[]⟩] := by simp [partsV, strB]
            rw [e]
            simpa using hown'
          · rw [← HN.out, HDR.out, h47, splitL_slash]
            have := splitL_ne (s.data.toList.drop (k + 1))
            cases hq : splitL (s.data.toList.drop (k + 1)) with
            | nil => exact absurd hq this
            | cons c r => simp [headApp]
        case measure => simp [intOf]; omega
      · have hq : ¬ (s[k].toNat : Int) = 47 := by
          intro e
          apply h47
          apply UInt8.toNat_inj.1
          have : s[k].toNat = 47 := by omega
          rw [this]; rfl
        have hcell := hown.cellAt done.length (by omega)
        have hfz := hown.frozenAt done.length
        simp only [partsV, List.map_append, List.map_cons, List.map_nil] at hcell
        rw [List.getElem?_append_right (by simp)] at hcell
        simp only [List.length_map, Nat.sub_self, List.getElem?_cons_zero] at hcell
        have hst := hown.stored done.length (.string (strB (cur ++ [s[k]])))
        have HST := Lib.hid hst
        have hw1 : IntKind.i64.wrap ((done.length : Int) + 1 - 1) = (done.length : Int) := by rw [show (done.length : Int) + 1 - 1 = done.length by omega]; exact IntWalk.i64_in _ (by omega)
        have hw2 : IntKind.i64.wrap ((k : Int) + 1) = (k : Int) + 1 := IntWalk.i64_in _ (by omega)
        have hw3 : ((k : Int) + 1).toNat = k + 1 := by omega
        have hw4 : ((k : Int)).toNat = k := by omega
        have hw5 : ((done.length : Int)).toNat = done.length := by omega
        have hk0 : (0 : Int) ≤ (k : Int) := by omega
        have hk1 : (k : Int) + 1 ≤ (s.size : Int) := by omega
        have hcs : (strB cur).size = cur.length := rfl
        have hex : (s.extract k (k + 1)).size = 1 := by rw [ByteArray.size_extract]; omega
        have hcz : (strB cur).size + (s.extract k (k + 1)).size ≤ 4000000 := by omega
        clear hst hown
        go_upto_region 7 with fail
        go_region
        go_wp2
        go_roundw
        case rel =>
          have e : strB cur ++ s.extract k (k + 1) = strB (cur ++ [s[k]]) := strB_snoc s cur k hlt
          rw [e]
          refine ⟨g, cap, k + 1, done, cur ++ [s[k]], rfl, by go_num, by omega, ?_, ?_, ?_, by omega, by simp; omega⟩
          · have := HST.out.1
            rw [partsV_set] at this
            exact this.drew
          · exact (hb.grown HST.out.2 hsz (fun j hj => by cases hj; exact (HOWN.out.lt g rfl).1)).drew
          · rw [← HN.out, HDR.out, splitL_other h47, headApp_app _ _ (splitL_ne _)]
        case measure => simp [intOf]; omega
    · have hke : k = s.size := by omega
      have HF := Lib.hid (show s.data.toList.drop k = [] from List.drop_of_length_le (by simp; omega))
      have HE : done ++ [cur] = partsR s := by rw [← HN.out, HF.out]; simp [splitL, headApp]
      have HL := Lib.hid (show done.length + 1 = (partsR s).length by rw [← HE]; simp)
      rw [HE] at hown
      have HO := Lib.hid hown
      clear hown HE
      go_wp2
      go_ret
      refine ⟨g, cap, ?_, ?_, hb⟩
      · rw [← HL.out]; rfl
      · rw [← HL.out]; exact HO.out
theorem parts_any (s : ByteArray) (w : World) (hs : s.size ≤ 1000000) :
    Calls Tryd.prog 114 #[.string s] w fun e w' => ∃ g cap, e = .returned (.slice (some ⟨g, 0, none⟩) (partsR s).length cap) ∧ w'.ownsRow w.heap.size 9 1 (.slice (some ⟨g, 0, none⟩) (partsR s).length cap) (partsR s).length (partsV (partsR s)) ∧ Below w.heap.size w w' :=
  parts_big s w (by omega)
end Go.Proofs.YtaoejgnfoecpfaaDoor
namespace Go.Proofs.YtaoejgnfoecpfaaDoor
set_option linter.unusedVariables false
set_option linter.unusedSimpArgs false
set_option linter.unusedSectionVars false
open Go.RowKit

theorem idx_none : ∀ l : List UInt8, Lib.index l [47] = -1 → splitL l = [l]
  | [], _ => rfl
  | b :: l, h => by
    have hb : b ≠ 47 := by
      rintro rfl
      simp [Lib.index, List.isPrefixOf] at h
    have hp : ([47] : List UInt8).isPrefixOf (b :: l) = false := by simp [List.isPrefixOf]; exact fun e => hb e.symm
    have hl : Lib.index l [47] = -1 := by
      unfold Lib.index at h
      rw [hp] at h
      by_cases hq : Lib.index l [47] = -1
      · exact hq
      · have := Lib.index_ge l [47]
        simp [hq] at h
        omega
    rw [splitL_other hb, idx_none l hl]
    rfl
theorem idx_some : ∀ (l : List UInt8) (i : Nat), Lib.index l [47] = i → splitL l = l.take i :: splitL (l.drop (i + 1))
  | [], i, h => by
    exfalso
    simp [Lib.index] at h
  | b :: l, i, h => by
    by_cases hb : b = 47
    · subst hb
      have : i = 0 := by
        simp [Lib.index, List.isPrefixOf] at h
        omega
      subst this
      rw [splitL_slash]
      simp
    · have hp : ([47] : List UInt8).isPrefixOf (b :: l) = false := by simp [List.isPrefixOf]; exact fun e => hb e.symm
      unfold Lib.index at h
      rw [hp] at h
      have hg := Lib.index_ge l [47]
      by_cases hq : Lib.index l [47] = -1
      · simp [hq] at h
      · simp [hq] at h
        obtain ⟨j, rfl⟩ : ∃ j, i = j + 1 := ⟨i - 1, by omega⟩
        have hl : Lib.index l [47] = (j : Nat) := by omega
        rw [splitL_other hb, idx_some l j hl]
        rfl
/-- the parts, as texts -/
def partsP (s : ByteArray) : List ByteArray := (partsR s).map strB
theorem slash_list : slash.data.toList = [47] := rfl
theorem strB_self (s : ByteArray) : strB s.data.toList = s := by
  apply ByteArray.ext
  simp [strB]
theorem partsP_none (s : ByteArray) (h : Lib.indexB s slash = -1) : partsP s = [s] := by
  unfold partsP partsR
  rw [idx_none _ h]
  simp [strB_self]
theorem partsP_some (s : ByteArray) (i : Nat) (h : Lib.indexB s slash = i) : partsP s = s.extract 0 i :: partsP (s.extract (i + 1) s.size) := by
  unfold partsP partsR
  rw [idx_some _ i h, List.map_cons, Lib.extract_to_end]
  congr 1
  apply ByteArray.ext
  apply Array.toList_inj.1
  rw [Lib.extract_from_zero]
  simp [strB]
theorem partsP_ne (s : ByteArray) : 1 ≤ (partsP s).length := by
  unfold partsP partsR
  have := splitL_ne s.data.toList
  cases h : splitL s.data.toList with
  | nil => exact absurd h this
  | cons a t => simp
/-- strings.Split's parts -/
theorem split_parts : ∀ (n : Nat) (s : ByteArray), s.size ≤ n → Lib.splitB slash 0 (Lib.countB s slash) s = partsP s ∧ (partsP s).length = Lib.countB s slash + 1
  | n, s, hn => by
    rcases Lib.indexB_cases s slash with h | ⟨i, h, hi⟩
    · rw [Lib.countB_miss _ _ h, partsP_none s h]
      exact ⟨rfl, rfl⟩
    · have hi1 : i + 1 ≤ s.size := hi
      cases n with
      | zero => omega
      | succ n =>
        have hz : (s.extract (i + 1) s.size).size ≤ n := by rw [ByteArray.size_extract]; omega
        obtain ⟨h1, h2⟩ := split_parts n _ hz
        rw [Lib.countB_hit s slash i (by decide) h, partsP_some s i h]
        rw [Nat.add_comm 1, Lib.splitB_hit slash 0 _ s i h]
        exact ⟨by rw [Nat.add_zero, show slash.size = 1 from rfl, h1], by rw [List.length_cons, h2]; rfl⟩
/-- all parts are names -/
theorem allFrom_parts : ∀ (f : Nat) (s : ByteArray), s.size ≤ f → allFrom f s = (partsP s).all nameOk
  | f, s, hf => by
    rcases Lib.indexB_cases s slash with h | ⟨i, h, hi⟩
    · rw [allFrom_last f s h, partsP_none s h]; simp
    · have hi1 : i + 1 ≤ s.size := hi
      cases f with
      | zero => omega
      | succ f =>
        rw [partsP_some s i h, List.all_cons]
        simp only [allFrom]
        rw [if_neg (by omega), h]
        have hz : (s.extract (i + 1) s.size).size ≤ f := by rw [ByteArray.size_extract]; omega
        have := allFrom_parts f _ hz
        simp only [Int.toNat_natCast]
        rw [this]
theorem isPath_parts (s : ByteArray) : isPath s = (decide (s.size ≤ 200) && decide ((partsP s).length ≤ 8) && (partsP s).all nameOk) := by
  unfold isPath
  rw [allFrom_parts s.size s (Nat.le_refl _), (split_parts s.size s (Nat.le_refl _)).2]
  congr 2

theorem strRow_new (W : World) (xs : List ByteArray) : StrRow (W.alloc (.cells (xs.map Value.string).toArray 9)) W.heap.size xs := fun j u hj => by
  have := World.alloc_heap_new W (.cells (xs.map Value.string).toArray 9)
  unfold World.cell?
  dsimp only
  rw [this]
  simp [hj]
set_option maxRecDepth 100000 in
set_option maxHeartbeats 800000 in
theorem pcompare_any (a b : ByteArray) (w : World) (he : Env w) (ha : a.size ≤ 1000000) (hb : b.size ≤ 1000000) :
    Calls Tryd.prog 88 #[.string a, .string b] w fun e w' => e = .returned (.int .i64 (cmpL (partsP a) (partsP b))) ∧ Below w.heap.size w w' := by
  obtain ⟨⟨m, hm⟩, _⟩ := he
  obtain ⟨a1, a2⟩ := split_parts a.size a (Nat.le_refl _)
  obtain ⟨b1, b2⟩ := split_parts b.size b (Nat.le_refl _)
  have hca : Lib.countB a slash ≤ a.size + 1 := by unfold Lib.countB; exact Lib.count_le _ _
  have hcb : Lib.countB b slash ≤ b.size + 1 := by unfold Lib.countB; exact Lib.count_le _ _
  have h1 := Tryd.strings_Split a slash m w (by omega) hm (by decide)
  rw [a1, ← a2] at h1
  have hw1 : Below w.heap.size w (w.alloc (.cells ((partsP a).map Value.string).toArray 9)) := (Below.refl _ w).alloc (Nat.le_refl _) _
  have hm1 := (hw1.cell (p := ⟨0, 0, none⟩) (cellLt hm)).trans hm
  have h2 := Tryd.strings_Split b slash m _ (by omega) hm1 (by decide)
  rw [b1, ← b2] at h2
  have hA := partsP_ne a
  have hB := partsP_ne b
  have hz1 : (w.alloc (.cells ((partsP a).map Value.string).toArray 9)).heap.size = w.heap.size + 1 := by simp
  have hr1 : StrRow ((w.alloc (.cells ((partsP a).map Value.string).toArray 9)).alloc (.cells ((partsP b).map Value.string).toArray 9)) w.heap.size (partsP a) := fun j u hj => by
    rw [((Below.refl (w.heap.size + 1) (w.alloc (.cells ((partsP a).map Value.string).toArray 9))).alloc (by simp) _).cell (p := ⟨w.heap.size, j, none⟩) (by simp)]
    exact strRow_new w (partsP a) j u hj
  have hr2 : StrRow ((w.alloc (.cells ((partsP a).map Value.string).toArray 9)).alloc (.cells ((partsP b).map Value.string).toArray 9)) (w.alloc (.cells ((partsP a).map Value.string).toArray 9)).heap.size (partsP b) := fun j u hj => strRow_new _ (partsP b) j u hj
  have hb2 : Below w.heap.size w ((w.alloc (.cells ((partsP a).map Value.string).toArray 9)).alloc (.cells ((partsP b).map Value.string).toArray 9)) := hw1.alloc (by simp) _
  have h3 := slcmp_any (partsP a) (partsP b) w.heap.size _ (partsP a).length (partsP b).length _ hr1 hr2 (by omega) (by omega)
  unfold slash at h1 h2
  rw [hz1] at h2 h3
  have H1 := Lib.hid h1
  have H2 := Lib.hid h2
  have H3 := Lib.hid h3
  have HB2 := Lib.hid hb2
  clear h1 h2 h3 hb2 hr1 hr2 hm1 hm hw1 a1 b1 a2 b2 hz1 hca hcb hA hB ha hb
  go_enter Tryd.func88, Tryd.ntmps88
  go_wp2_with fail
  refine H1.out.mono ?_
  rintro e w1 ⟨rfl, rfl⟩
  go_wp2_with fail
  refine H2.out.mono ?_
  rintro e w1 ⟨rfl, rfl⟩
  go_wp2_with fail
  refine H3.out.mono ?_
  rintro e w1 ⟨rfl, rfl⟩
  go_wp2
  go_ret
  exact ⟨rfl, HB2.out⟩
end Go.Proofs.YtaoejgnfoecpfaaDoor
namespace Go.Proofs.YtaoejgnfoecpfaaDoor
set_option linter.unusedVariables false
set_option linter.unusedSimpArgs false
set_option linter.unusedSectionVars false
open Go.RowKit

theorem own_below {B : Nat} {e : TypeId} {k : Nat} {v : Value} {n : Nat} {xs : List Value} {w w' : World} (h : w.ownsRow B e k v n xs) (hb : Below w.heap.size w w') : w'.ownsRow B e k v n xs :=
  h.kept (row := none) ⟨hb.os, hb.tape, hb.output, hb.size, fun j hj _ => hb.block j hj⟩ (by cases hv : v.ownBlock <;> simp)
theorem parts_row {w : World} {B g n cap : Nat} {s : ByteArray} (h : w.ownsRow B 9 1 (.slice (some ⟨g, 0, none⟩) n cap) n (partsV (partsR s))) : StrRow w g (partsP s) ∧ n = (partsP s).length := by
  have hn : n = (partsP s).length := by
    have := h.1
    simp [partsV] at this
    simp [partsP, this]
  refine ⟨fun j u hj => ?_, hn⟩
  have hjl : j < (partsP s).length := (List.getElem?_eq_some_iff.1 hj).1
  rw [h.cellAt j (by omega)]
  unfold partsP at hj
  simp only [partsV, List.getElem?_map] at hj ⊢
  cases hq : (partsR s)[j]? with
  | none => rw [hq] at hj; simp at hj
  | some x =>
    rw [hq] at hj
    simp at hj
    simp [hj]
theorem partsP_len (s : ByteArray) : (partsP s).length ≤ s.size + 2 := by
  have h1 := (split_parts s.size s (Nat.le_refl _)).2
  have : Lib.countB s slash ≤ s.size + 1 := by unfold Lib.countB; exact Lib.count_le _ _
  omega

set_option maxRecDepth 100000 in
set_option maxHeartbeats 1600000 in
theorem refcompare_any (a b : ByteArray) (w : World) (ha : a.size ≤ 1000000) (hb : b.size ≤ 1000000) :
    Calls Tryd.prog 85 #[.string a, .string b] w fun e w' => e = .returned (.int .i64 (cmpL (partsP a) (partsP b))) ∧ Below w.heap.size w w' := by
  have hla := partsP_len a
  have hlb := partsP_len b
  have H1 := Lib.hid (parts_any a w ha)
  have H2 := Lib.hid fun W => parts_any b W hb
  go_enter Tryd.func85, Tryd.ntmps85
  go_wp2_with fail
  refine H1.out.mono ?_
  rintro e w1 ⟨ga, ca, rfl, ho1, hb1⟩
  go_wp2_with fail
  refine (H2.out w1).mono ?_
  rintro e w2 ⟨gb, cb, rfl, ho2, hb2⟩
  obtain ⟨hr1, hn1⟩ := parts_row (own_below ho1 hb2)
  obtain ⟨hr2, hn2⟩ := parts_row ho2
  have HBL := Lib.hid (hb1.trans (hb2.mono hb1.size))
  have HX := Lib.hid hr1
  have HY := Lib.hid hr2
  rw [hn1, hn2]
  clear hb1 hb2 ho1 ho2 hr1 hr2 hn1 hn2 H1 H2
  generalize hxs : partsP a = xs at *
  generalize hys : partsP b = ys at *
  have HXS := Lib.hid hxs
  have HYS := Lib.hid hys
  clear hxs hys
  go_wp2
  go_loopw [14] (fun t wr => ∃ k : Nat, t = .int .i64 (k : Nat) ∧ k ≤ xs.length ∧ k ≤ ys.length ∧ cmpL (xs.drop k) (ys.drop k) = cmpL xs ys ∧ StrRow wr ga xs ∧ StrRow wr gb ys ∧ Below w.heap.size w wr) (fun t _ => xs.length - (intOf t).toNat)
  case atStart => exact ⟨0, rfl, Nat.zero_le _, Nat.zero_le _, rfl, HX.out, HY.out, HBL.out⟩
  case round =>
    obtain ⟨k, rfl, hkx, hky, hn, hx, hy, hbl⟩ := hrel
    have HN := Lib.hid hn
    have HX := Lib.hid hx
    have HY := Lib.hid hy
    have HB := Lib.hid hbl
    have hk0 : (0 : Int) ≤ (k : Int) := by omega
    have hk1 : ((k : Int)).toNat = k := by omega
    clear hn hx hy hbl
    by_cases h1 : k < xs.length
    · have hcx := HX.out k xs[k] (List.getElem?_eq_getElem h1)
      have HDX := Lib.hid (drop_some h1)
      generalize xs[k] = x at *
      by_cases h2 : k < ys.length
      · have hcy := HY.out k ys[k] (List.getElem?_eq_getElem h2)
        have HDY := Lib.hid (drop_some h2)
        generalize ys[k] = y at *
        have hge : decide ((ys.length : Int) ≤ (k : Int)) = false := by simp; omega
        have hge2 : ¬ (ys.length : Int) ≤ (k : Int) := by omega
        have HD := Lib.hid (show cmpL (x :: xs.drop (k + 1)) (y :: ys.drop (k + 1)) = if sCmp x y = 0 then cmpL (xs.drop (k + 1)) (ys.drop (k + 1)) else sCmp x y from rfl)
        cases hl : Op.bytesLess x.toList y.toList with
        | true =>
          have HS := Lib.hid (show sCmp x y = -1 by unfold sCmp lessS; rw [if_pos hl])
          go_upto_region 5 with fail
          go_region
          go_upto_region 7 with fail
          go_region
          go_wp2
          go_ret
          exact ⟨ret_int (by rw [HXS.out, HYS.out, ← HN.out, HDX.out, HDY.out, HD.out, HS.out]; rfl), HB.out.drew.drew⟩
        | false =>
          cases hq : x.toList == y.toList with
          | true =>
            have HS := Lib.hid (show sCmp x y = 0 by unfold sCmp lessS; rw [if_neg (by rw [hl]; simp), if_pos (eq_of_beq hq)])
            go_upto_region 5 with fail
            go_region
            go_upto_region 7 with fail
            go_region
            go_wp2
            go_roundw
            case rel => exact ⟨k + 1, by go_num, by omega, by omega, by rw [← HN.out, HDX.out, HDY.out, HD.out, if_pos HS.out], HX.out, HY.out, HB.out.drew.drew⟩
            case measure => simp [intOf]; omega
          | false =>
            have HS := Lib.hid (show sCmp x y = 1 by unfold sCmp lessS; rw [if_neg (by rw [hl]; simp), if_neg (fun e => by rw [e] at hq; simp at hq)])
            go_upto_region 5 with fail
            go_region
            go_wp2
            go_ret
            exact ⟨ret_int (by rw [HXS.out, HYS.out, ← HN.out, HDX.out, HDY.out, HD.out, HS.out]; rfl), HB.out.drew⟩
      · have HF := Lib.hid (show ys.drop k = [] from List.drop_of_length_le (by omega))
        have hge : decide ((ys.length : Int) ≤ (k : Int)) = true := by simp; omega
        have hge2 : (ys.length : Int) ≤ (k : Int) := by omega
        go_upto_region 5 with fail
        go_region
        go_wp2
        go_ret
        exact ⟨ret_int (by rw [HXS.out, HYS.out, ← HN.out, HDX.out, HF.out]; rfl), HB.out.drew⟩
    · have HF := Lib.hid (show xs.drop k = [] from List.drop_of_length_le (by omega))
      have hke : k = xs.length := by omega
      by_cases h2 : k < ys.length
      · have HDY := Lib.hid (drop_some h2)
        generalize ys[k] = y at *
        go_wp2
        go_ret
        exact ⟨ret_int (by rw [HXS.out, HYS.out, ← HN.out, HF.out, HDY.out]; rfl), HB.out⟩
      · have HG := Lib.hid (show ys.drop k = [] from List.drop_of_length_le (by omega))
        go_wp2
        go_ret
        exact ⟨ret_int (by rw [HXS.out, HYS.out, ← HN.out, HF.out, HG.out]; rfl), HB.out⟩
end Go.Proofs.YtaoejgnfoecpfaaDoor
