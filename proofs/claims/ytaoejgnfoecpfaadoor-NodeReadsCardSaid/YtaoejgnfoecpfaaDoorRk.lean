/- The document's Parts. -/
import Derived.Test.YtaoejgnfoecpfaaDoorRj
import Derived.Test.YtaoejgnfoecpfaaDoorKit
namespace Go.Proofs.YtaoejgnfoecpfaaDoor
open Go.RowKit

/-- cut at each slash -/
def splitL : List UInt8 → List (List UInt8)
  | [] => [[]]
  | c :: r => if c = 47 then [] :: splitL r else match splitL r with
    | h :: t => (c :: h) :: t
    | [] => [[c]]
/-- the first part lengthened in front -/
def headApp (l : List UInt8) : List (List UInt8) → List (List UInt8)
  | h :: t => (l ++ h) :: t
  | [] => [l]
theorem splitL_ne (l : List UInt8) : splitL l ≠ [] := by
  cases l with
  | nil => simp [splitL]
  | cons c r =>
    unfold splitL
    split
    · simp
    · split <;> simp
theorem splitL_slash (r : List UInt8) : splitL (47 :: r) = [] :: splitL r := by simp [splitL]
theorem splitL_other {c : UInt8} (h : c ≠ 47) (r : List UInt8) : splitL (c :: r) = headApp [c] (splitL r) := by
  simp only [splitL]
  rw [if_neg h]
  have := splitL_ne r
  cases hs : splitL r with
  | nil => exact absurd hs this
  | cons a t => rfl
theorem headApp_app (l m : List UInt8) {x : List (List UInt8)} (h : x ≠ []) : headApp (l ++ m) x = headApp l (headApp m x) := by
  cases x with
  | nil => exact absurd rfl h
  | cons a t => simp [headApp]
def strB (l : List UInt8) : ByteArray := ⟨l.toArray⟩
def partsV (ps : List (List UInt8)) : List Value := ps.map fun p => .string (strB p)
theorem partsV_set (done : List (List UInt8)) (cur nxt : List UInt8) : (partsV (done ++ [cur])).set done.length (.string (strB nxt)) = partsV (done ++ [nxt]) := by
  simp [partsV, List.set_append_right]
theorem strB_snoc (s : ByteArray) (cur : List UInt8) (k : Nat) (h : k < s.size) : strB cur ++ s.extract k (k + 1) = strB (cur ++ [s[k]]) := by
  apply ByteArray.ext
  have e : (s.extract k (k + 1)).data.toList = [s[k]] := by
    have h2 : s.data.toList[k]? = some s[k] := by rw [List.getElem?_eq_getElem (by simpa using h)]; rfl
    simp only [ByteArray.data_extract, Array.toList_extract]
    rw [List.extract_eq_take_drop]
    rw [List.drop_eq_getElem_cons (by simpa using h)]
    simp
    rfl
  rw [ByteArray.data_append]
  apply Array.toList_inj.1
  rw [Array.toList_append, e]
  simp [strB]
def partsR (s : ByteArray) : List (List UInt8) := splitL s.data.toList
theorem infoStr : (Tryd.prog.info? 9).map (fun i => (i.zero, i.size, i.bytes)) = some (some (.string ⟨#[]⟩), 1, 16) := by kernel_rfl

set_option maxRecDepth 100000 in
set_option maxHeartbeats 800000 in
theorem parts_any (s : ByteArray) (w : World) (hs : s.size ≤ 1000000) :
    Calls Tryd.prog 114 #[.string s] w fun e w' => ∃ g cap, e = .returned (.slice (some ⟨g, 0, none⟩) (partsR s).length cap) ∧ w'.ownsRow w.heap.size 9 1 (.slice (some ⟨g, 0, none⟩) (partsR s).length cap) (partsR s).length (partsV (partsR s)) ∧ Below w.heap.size w w' := by
  go_enter Tryd.func114, Tryd.ntmps114
  go_wp2
  go_loopw [3, 4] (fun v i wr => ∃ (g cap k : Nat) (done : List (List UInt8)) (cur : List UInt8), v = .slice (some ⟨g, 0, none⟩) (done.length + 1 : Nat) cap ∧ i = .int .i64 (k : Nat) ∧ k ≤ s.size ∧ wr.ownsRow w.heap.size 9 1 (.slice (some ⟨g, 0, none⟩) (done.length + 1) cap) (done.length + 1) (partsV (done ++ [cur])) ∧ Below w.heap.size w wr ∧ done ++ headApp cur (splitL (s.data.toList.drop k)) = partsR s ∧ done.length ≤ k ∧ cur.length ≤ k) (fun _ i _ => s.size - (intOf i).toNat)
  case atStart =>
    refine ⟨w.heap.size, 1, 0, [], [], rfl, rfl, by omega, ?_, (Below.refl _ w).alloc (Nat.le_refl _) _, ?_, by simp, by simp⟩
    · exact World.ownsRow_lit w #[.string ⟨#[]⟩] 1 (Nat.le_refl _) (by decide) rfl
    · have := splitL_ne s.data.toList
      unfold partsR
      cases hq : splitL s.data.toList with
      | nil => exact absurd hq this
      | cons c r => simp [headApp, hq]
  case round =>
    obtain ⟨g, cap, k, done, cur, rfl, rfl, hk, hown, hb, hn, hd, hcl⟩ := hrel
    have HN := Lib.hid hn
    have HOWN := Lib.hid hown
    have hsz := hb.size
    clear hn
    by_cases hlt : k < s.size
    · have HDR := Lib.hid (show s.data.toList.drop k = s[k] :: s.data.toList.drop (k + 1) from List.drop_eq_getElem_cons (by simpa using hlt))
      by_cases h47 : s[k] = 47
      · have hq : (s[k].toNat : Int) = 47 := by rw [h47]; rfl
        go_wp2_with (at_builtin; refine wpList_app1 rfl _ _ 50 rfl w.heap.size 9 Tryd.underlying50 infoStr rfl (by decide) _ _ _ rfl hown _ rfl rfl (oneCell_string _) ?_ ?_ ?_ ?_; omega; omega; omega; intro g1 cap1 w5 hown' hgr hbw _)
        go_roundw
        case rel =>
          refine ⟨g1, cap1, k + 1, done ++ [cur], [], by simp, by go_num, by omega, ?_, hb.trans hbw, ?_, by simp; omega, by simp⟩
          · have e : partsV ((done ++ [cur]) ++ [[]]) = partsV (done ++ [cur]) ++ [.string ⟨#[]⟩] := by simp [partsV, strB]
            rw [e]
            simpa using hown'
          · rw [← HN.out, HDR.out, h47, splitL_slash]
            have := splitL_ne (s.data.toList.drop (k + 1))
            cases hq : splitL (s.data.toList.drop (k + 1)) with
            | nil => exact absurd hq this
            | cons c r => simp [headApp]
        case measure => simp [intOf]; omega
      · have hq : ¬ (s[k].toNat : Int) = 47 := by
          intro e
          apply h47
          apply UInt8.toNat_inj.1
          have : s[k].toNat = 47 := by omega
          rw [this]; rfl
        have hcell := hown.cellAt done.length (by omega)
        have hfz := hown.frozenAt done.length
        simp only [partsV, List.map_append, List.map_cons, List.map_nil] at hcell
        rw [List.getElem?_append_right (by simp)] at hcell
        simp only [List.length_map, Nat.sub_self, List.getElem?_cons_zero] at hcell
        have hst := hown.stored done.length (.string (strB (cur ++ [s[k]])))
        have HST := Lib.hid hst
        have hw1 : IntKind.i64.wrap ((done.length : Int) + 1 - 1) = (done.length : Int) := by rw [show (done.length : Int) + 1 - 1 = done.length by omega]; exact IntWalk.i64_in _ (by omega)
        have hw2 : IntKind.i64.wrap ((k : Int) + 1) = (k : Int) + 1 := IntWalk.i64_in _ (by omega)
        have hw3 : ((k : Int) + 1).toNat = k + 1 := by omega
        have hw4 : ((k : Int)).toNat = k := by omega
        have hw5 : ((done.length : Int)).toNat = done.length := by omega
        have hk0 : (0 : Int) ≤ (k : Int) := by omega
        have hk1 : (k : Int) + 1 ≤ (s.size : Int) := by omega
        have hcs : (strB cur).size = cur.length := rfl
        have hex : (s.extract k (k + 1)).size = 1 := by rw [ByteArray.size_extract]; omega
        have hcz : (strB cur).size + (s.extract k (k + 1)).size ≤ 4000000 := by omega
        clear hst hown
        go_upto_region 7 with fail
        go_region
        go_wp2
        go_roundw
        case rel =>
          have e : strB cur ++ s.extract k (k + 1) = strB (cur ++ [s[k]]) := strB_snoc s cur k hlt
          rw [e]
          refine ⟨g, cap, k + 1, done, cur ++ [s[k]], rfl, by go_num, by omega, ?_, ?_, ?_, by omega, by simp; omega⟩
          · have := HST.out.1
            rw [partsV_set] at this
            exact this.drew
          · exact (hb.grown HST.out.2 hsz (fun j hj => by cases hj; exact (HOWN.out.lt g rfl).1)).drew
          · rw [← HN.out, HDR.out, splitL_other h47, headApp_app _ _ (splitL_ne _)]
        case measure => simp [intOf]; omega
    · have hke : k = s.size := by omega
      have HF := Lib.hid (show s.data.toList.drop k = [] from List.drop_of_length_le (by simp; omega))
      have HE : done ++ [cur] = partsR s := by rw [← HN.out, HF.out]; simp [splitL, headApp]
      have HL := Lib.hid (show done.length + 1 = (partsR s).length by rw [← HE]; simp)
      rw [HE] at hown
      have HO := Lib.hid hown
      clear hown HE
      go_wp2
      go_ret
      refine ⟨g, cap, ?_, ?_, hb⟩
      · rw [← HL.out]; rfl
      · rw [← HL.out]; exact HO.out
end Go.Proofs.YtaoejgnfoecpfaaDoor
