/- walk.Diff, walked. turned: is a change the other one the other way about?. Rows of changes, to be read. WalkTurns: its walk. -/
import Derived.Test.YtaoejgnfoecpfaaDoorJt22
namespace Go.Proofs.YtaoejgnfoecpfaaDoor
set_option linter.unusedVariables false
set_option linter.unusedSimpArgs false
set_option linter.unusedSectionVars false
open Go.RowKit

theorem diff_nn : diffL [] [] = [] := by unfold diffL; rfl
theorem diff_ny (y : Itm) (b : List Itm) : diffL [] (y :: b) = (y.path, 1) :: diffL [] b := by conv => lhs; unfold diffL
theorem diff_xn (x : Itm) (a : List Itm) : diffL (x :: a) [] = (x.path, 2) :: diffL a [] := by conv => lhs; unfold diffL
theorem diff_lt {x y : Itm} {a b : List Itm} (h : cmpL (partsP x.path) (partsP y.path) < 0) : diffL (x :: a) (y :: b) = (x.path, 2) :: diffL a (y :: b) := by
  conv => lhs; unfold diffL
  rw [if_pos h]
theorem diff_gt {x y : Itm} {a b : List Itm} (h : ¬ cmpL (partsP x.path) (partsP y.path) < 0) (h2 : cmpL (partsP x.path) (partsP y.path) > 0) : diffL (x :: a) (y :: b) = (y.path, 1) :: diffL (x :: a) b := by
  conv => lhs; unfold diffL
  rw [if_neg h, if_pos h2]
theorem diff_eq {x y : Itm} {a b : List Itm} (h : cmpL (partsP x.path) (partsP y.path) = 0) (he : x = y) : diffL (x :: a) (y :: b) = diffL a b := by
  conv => lhs; unfold diffL
  rw [if_neg (by omega), if_neg (by omega), if_pos he]
theorem diff_ne {x y : Itm} {a b : List Itm} (h : cmpL (partsP x.path) (partsP y.path) = 0) (he : x ≠ y) : diffL (x :: a) (y :: b) = (x.path, 3) :: diffL a b := by
  conv => lhs; unfold diffL
  rw [if_neg (by omega), if_neg (by omega), if_neg he]
theorem own_baseW {w : World} {B B' n k : Nat} {t : TypeId} {v : Value} {xs : List Value} (h : w.ownsRow B t k v n xs) (hB : B' ≤ B) : w.ownsRow B' t k v n xs := by
  obtain ⟨q1, q2⟩ := h
  refine ⟨q1, q2.imp id ?_⟩
  rintro ⟨g, cap, cur, r1, r2, r3⟩
  exact ⟨g, cap, cur, r1, Nat.le_trans hB r2, r3⟩
def chgC (c : ByteArray × Nat) : List Value := [.string c.1, .int .i64 c.2]
def chgsC (l : List (ByteArray × Nat)) : List Value := (l.map chgC).flatten
theorem chgsC_add (a : List (ByteArray × Nat)) (x : ByteArray × Nat) : chgsC (a ++ [x]) = chgsC a ++ chgC x := by
  unfold chgsC
  rw [List.map_append, List.flatten_append]
  simp
theorem chgsC_len : ∀ l : List (ByteArray × Nat), (chgsC l).length = l.length * 2
  | [] => rfl
  | x :: r => by
    have := chgsC_len r
    unfold chgsC at *
    rw [List.map_cons, List.flatten_cons, List.length_append, this, List.length_cons]
    show 2 + _ = _
    omega
theorem infoChg : (Tryd.prog.info? 97).map (fun i => (i.zero, i.size, i.bytes)) = some (some (.agg #[.string ⟨#[]⟩, .int .i64 0]), 2, 24) := by kernel_rfl
theorem ItmA.tail {w : World} {g o : Nat} {x : Itm} {r : List Itm} (h : ItmA w (some ⟨g, o, none⟩) (x :: r)) : ItmA w (some ⟨g, o + 5, none⟩) r := fun hl => by
  obtain ⟨g', o', e, h2, h3⟩ := h (by simp)
  injection e with e
  injection e with e1 e2
  subst e1 e2
  refine ⟨g, o + 5, rfl, h2, fun i y hy j u hj => ?_⟩
  have := h3 (i + 1) y (by simpa using hy) j u hj
  rw [show o + 5 + i * 5 + j = o + (i + 1) * 5 + j by omega]
  exact this
theorem ItmA.head {w : World} {A : Option Addr} {x : Itm} {r : List Itm} (h : ItmA w A (x :: r)) : ∃ g o, A = some ⟨g, o, none⟩ ∧ g < w.heap.size ∧ w.cell? ⟨g, o, none⟩ = some (.string x.path) ∧ w.cell? ⟨g, o + 1, none⟩ = some (.int .i64 x.kind) ∧ w.cell? ⟨g, o + 2, none⟩ = some (.int .i64 x.mode) ∧ w.cell? ⟨g, o + 3, none⟩ = some (.int .i64 x.time) ∧ w.cell? ⟨g, o + 4, none⟩ = some (.string x.data) := by
  obtain ⟨g, o, e, h2, h3⟩ := h (by simp)
  have h4 := h3 0 x rfl
  refine ⟨g, o, e, h2, ?_, ?_, ?_, ?_, ?_⟩
  · exact h4 0 _ rfl
  · have := h4 1 _ rfl; simpa using this
  · have := h4 2 _ rfl; simpa using this
  · have := h4 3 _ rfl; simpa using this
  · have := h4 4 _ rfl; simpa using this
theorem ItmA.tailc {w : World} {g o c : Nat} {x : Itm} {r : List Itm} (h : ItmA w (some ⟨g, o, none⟩) (x :: r)) (hc : r.length + 1 ≤ c) : ItmA w (if c = 1 then some ⟨g, o, none⟩ else some ⟨g, o + 5, none⟩) r := by
  by_cases h1 : c = 1
  · rw [if_pos h1]
    exact fun hl => by omega
  · rw [if_neg h1]
    exact h.tail
theorem bypathB (a : ByteArray) (k m t : Int) (d b : ByteArray) (k' m' t' : Int) (d' : ByteArray) (ha : a.size ≤ 1000000) (hb : b.size ≤ 1000000) (w : World) (he : Env w) :
    Calls Tryd.prog 90 #[.agg #[.string a, .int .i64 k, .int .i64 m, .int .i64 t, .string d], .agg #[.string b, .int .i64 k', .int .i64 m', .int .i64 t', .string d']] w fun e w' => e = .returned (.int .i64 (cmpL (partsP a) (partsP b))) ∧ Below w.heap.size w w' := by
  refine (bypath_any ⟨⟨a, k, m, t, d⟩, ha⟩ ⟨⟨b, k', m', t', d'⟩, hb⟩ w he.1).mono ?_
  rintro e w' ⟨h1, os, rfl⟩
  exact ⟨h1, rfl, rfl, rfl, by rw [Sort.size_grow]; omega, fun j hj => Sort.heap_grow_old _ _ hj⟩
def rlen (v : Value) : Nat := match v with | .slice _ n _ => n | _ => 0
/-- what walk.Diff gives of two rows in order -/
def DiffPost (sa sb : List Itm) (w : World) (e : Ending) (w' : World) : Prop :=
  Below w.heap.size w w' ∧ ∃ B d, e = .returned (.tuple #[.slice B (diffL sa sb).length d, .int .i64 0]) ∧ w'.ownsRow w.heap.size 97 2 (.slice B (diffL sa sb).length d) (diffL sa sb).length (chgsC (diffL sa sb))
set_option maxRecDepth 100000 in
set_option maxHeartbeats 6400000 in
theorem wdiff_any (A B : Option Addr) (ca cb : Nat) (la lb : List Itm) (w : World) (he : Env w) (hi : ItmA w A la) (hj : ItmA w B lb) (hb : ∀ x ∈ la, ItB x) (hb' : ∀ x ∈ lb, ItB x) (ht : TreeOk la) (ht' : TreeOk lb) :
    Calls Tryd.prog 57 #[.slice A la.length ca, .slice B lb.length cb] w fun e w' => ∃ sa sb, sa.Perm la ∧ SortedI sa ∧ sb.Perm lb ∧ SortedI sb ∧ DiffPost sa sb w e w' := by
  have hl := ht.len
  have hl' := ht'.len
  have HE := Lib.hid fun W (hb : Below w.heap.size w W) => he.below hb
  have HM := Lib.hid fun W (hb : Below w.heap.size w W) => hj.below hb
  have HW := Lib.hid (wwalk_any A ca la w he hi hb (by omega))
  have HB' := Lib.hid hb'
  have HT := Lib.hid ht
  have HT' := Lib.hid ht'
  clear he hi hj hb hb' ht ht'
  go_enter Tryd.func57, Tryd.ntmps57
  go_wp2_with fail
  refine HW.out.mono ?_
  rintro e w1 ⟨n, hch, hb1, hcs⟩
  rcases hcs with ⟨hn0, _⟩ | ⟨rfl, A1, c1, sa, rfl, hi1, hp1, hs1, hl1, hc1⟩
  · exact absurd ((chk_zero hch).2 HT.out) hn0
  have HB1 := Lib.hid hb1
  have HI1 := Lib.hid hi1
  have HPS := Lib.hid (And.intro hp1 hs1)
  have hsa : sa.length ≤ 200 := by omega
  have HPA := Lib.hid (show ∀ x ∈ sa, x.path.size ≤ 1000000 from fun x hx => tree_paths HT.out x (hp1.mem_iff.1 hx))
  clear hch hb1 hi1 hp1 hs1 hl1
  have HW2 := Lib.hid (wwalk_any B cb lb w1 (HE.out _ HB1.out) (HM.out _ HB1.out) HB'.out (by omega))
  go_wp2_with fail
  refine HW2.out.mono ?_
  rintro e w2 ⟨n, hch, hb2, hcs⟩
  rcases hcs with ⟨hn0, _⟩ | ⟨rfl, A2, c2, sb, rfl, hi2, hp2, hs2, hl2, hc2⟩
  · exact absurd ((chk_zero hch).2 HT'.out) hn0
  have HB2 := Lib.hid (HB1.out.trans (hb2.mono HB1.out.size))
  have HI2 := Lib.hid (HI1.out.below hb2)
  have HJ2 := Lib.hid hi2
  have HPT := Lib.hid (And.intro hp2 hs2)
  have hsb : sb.length ≤ 200 := by omega
  have HPB := Lib.hid (show ∀ x ∈ sb, x.path.size ≤ 1000000 from fun x hx => tree_paths HT'.out x (hp2.mem_iff.1 hx))
  clear hch hb2 hi2 hp2 hs2 hl2 HW HW2 HI1 HM
  go_wp2
  go_loopw [6, 8, 9] (fun av bv ov wr => ∃ (ra rb : List Itm) (out : List (ByteArray × Nat)) (A' B' O : Option Addr) (ca' cb' d : Nat), av = .slice A' ra.length ca' ∧ bv = .slice B' rb.length cb' ∧ ov = .slice O out.length d ∧ ra.length ≤ ca' ∧ rb.length ≤ cb' ∧ out.length + ra.length + rb.length ≤ 400 ∧ Hid (ItmA w2 A' ra) ∧ Hid (ItmA w2 B' rb) ∧ Hid (∀ x ∈ ra, x.path.size ≤ 1000000) ∧ Hid (∀ x ∈ rb, x.path.size ≤ 1000000) ∧ Hid (out ++ diffL ra rb = diffL sa sb) ∧ Hid (wr.ownsRow w2.heap.size 97 2 (.slice O out.length d) out.length (chgsC out)) ∧ Hid (Below w2.heap.size w2 wr)) (fun av bv _ _ => rlen av + rlen bv)
  case atStart => exact ⟨sa, sb, [], A1, A2, none, c1, c2, 0, rfl, rfl, rfl, hc1, hc2, by simp; omega, HI2, HJ2, HPA, HPB, Lib.hid (by simp), Lib.hid (World.ownsRow_nil _ _ _ _), Lib.hid (Below.refl _ _)⟩
  case round =>
    obtain ⟨ra, rb, out, A', B', O, ca', cb', d, rfl, rfl, rfl, h1, h2, hlen, HIA, HIB, HPRA, HPRB, HD, HO, HB⟩ := hrel
    have hl5 : (chgsC out).length = out.length * 2 := chgsC_len out
    cases ra with
    | nil => cases rb with
      | nil =>
        have hd := HD.out
        rw [diff_nn, List.append_nil] at hd
        have HD2 := Lib.hid hd
        clear hd
        go_wp2
        go_ret2
        exact ⟨sa, sb, HPS.out.1, HPS.out.2, HPT.out.1, HPT.out.2, HB2.out.trans (HB.out.mono HB2.out.size), O, d, by rw [HD2.out]; rfl, by rw [← HD2.out]; exact own_baseW HO.out HB2.out.size⟩
      | cons y rb =>
        obtain ⟨g, o, rfl, hg, q0, _, _, _, _⟩ := (HIB.out.below HB.out).head
        have HPR2 := Lib.hid (show ∀ x ∈ rb, x.path.size ≤ 1000000 from fun x hx => HPRB.out x (by simp [hx]))
        have hd := HD.out
        rw [diff_ny] at hd
        have HD2 := Lib.hid (show (out ++ [(y.path, 1)]) ++ diffL [] rb = diffL sa sb by rw [← hd]; simp)
        clear hd
        rw [List.length_cons] at h2 hlen
        have HIB2 := Lib.hid (HIB.out.tailc h2)
        have hz1 : (0 : Int) < (rb.length : Int) + 1 := by omega
        have hz2 : (1 : Int) ≤ (rb.length : Int) + 1 := by omega
        have hz3 : (rb.length : Int) + 1 ≤ (cb' : Int) := by omega
        go_wp2_with (at_builtin; refine wpList_app1s rfl _ _ 90 rfl w2.heap.size 97 Tryd.underlying90 infoChg rfl (by decide) _ _ _ rfl HO.out _ (by simp) rfl rfl (by simp [Value.oneCell']) (by omega) (by omega) HB.out.size ?_; intro g5 cap5 w7 ho5 hg5 hb5 hl5
                     have HO7 := Lib.hid (show w7.ownsRow w2.heap.size 97 2 (.slice (some ⟨g5, 0, none⟩) (out.length + 1) cap5) (out.length + 1) (chgsC (out ++ [(y.path, 1)])) by
                       rw [chgsC_add]
                       exact ho5)
                     have HB7 := Lib.hid (HB.out.grown hg5 HB.out.size fun j hj => (HO.out.lt j hj).1)
                     clear ho5 hg5 hb5 hl5)
        go_wp2
        go_roundw
        case rel => exact ⟨[], rb, out ++ [(y.path, 1)], A', _, some ⟨g5, 0, none⟩, ca', cb' - 1, cap5, rfl, rfl, by simp, by simp, by omega, by simp only [List.length_append, List.length_cons, List.length_nil]; simp only [List.length_nil] at hlen; omega, HIA, HIB2, HPRA, HPR2, HD2, Lib.hid (by simpa using HO7.out), HB7⟩
        case measure => simp [rlen]
    | cons x ra => cases rb with
      | nil =>
        obtain ⟨g, o, rfl, hg, q0, _, _, _, _⟩ := (HIA.out.below HB.out).head
        have HPR2 := Lib.hid (show ∀ z ∈ ra, z.path.size ≤ 1000000 from fun z hx => HPRA.out z (by simp [hx]))
        have hd := HD.out
        rw [diff_xn] at hd
        have HD2 := Lib.hid (show (out ++ [(x.path, 2)]) ++ diffL ra [] = diffL sa sb by rw [← hd]; simp)
        clear hd
        rw [List.length_cons] at h1 hlen
        have HIA2 := Lib.hid (HIA.out.tailc h1)
        have hz0 : ¬ (ra.length : Int) + 1 = 0 := by omega
        have hz1 : (0 : Int) < (ra.length : Int) + 1 := by omega
        have hz2 : (1 : Int) ≤ (ra.length : Int) + 1 := by omega
        have hz3 : (ra.length : Int) + 1 ≤ (ca' : Int) := by omega
        go_wp2_with (at_builtin; refine wpList_app1s rfl _ _ 90 rfl w2.heap.size 97 Tryd.underlying90 infoChg rfl (by decide) _ _ _ rfl HO.out _ (by simp) rfl rfl (by simp [Value.oneCell']) (by omega) (by omega) HB.out.size ?_; intro g5 cap5 w7 ho5 hg5 hb5 hl5
                     have HO7 := Lib.hid (show w7.ownsRow w2.heap.size 97 2 (.slice (some ⟨g5, 0, none⟩) (out.length + 1) cap5) (out.length + 1) (chgsC (out ++ [(x.path, 2)])) by
                       rw [chgsC_add]
                       exact ho5)
                     have HB7 := Lib.hid (HB.out.grown hg5 HB.out.size fun j hj => (HO.out.lt j hj).1)
                     clear ho5 hg5 hb5 hl5)
        go_wp2
        go_roundw
        case rel => exact ⟨ra, [], out ++ [(x.path, 2)], _, B', some ⟨g5, 0, none⟩, ca' - 1, cb', cap5, rfl, rfl, by simp, by omega, by simp, by simp only [List.length_append, List.length_cons, List.length_nil]; simp only [List.length_nil] at hlen; omega, HIA2, HIB, HPR2, HPRB, HD2, Lib.hid (by simpa using HO7.out), HB7⟩
        case measure => simp [rlen]
      | cons y rb =>
        obtain ⟨g, o, rfl, hg, p0, p1, p2, p3, p4⟩ := (HIA.out.below HB.out).head
        obtain ⟨g', o', rfl, hg', q0, q1, q2, q3, q4⟩ := (HIB.out.below HB.out).head
        simp only [List.length_cons] at h1 h2 hlen
        have hbp := bypathB x.path x.kind x.mode x.time x.data y.path y.kind y.mode y.time y.data (HPRA.out x (by simp)) (HPRB.out y (by simp)) wr.drew (HE.out _ ((HB2.out.trans (HB.out.mono HB2.out.size)).drew))
        have hrg := cmpL_range (partsP x.path) (partsP y.path)
        have HPR2 := Lib.hid (show ∀ z ∈ ra, z.path.size ≤ 1000000 from fun z hx => HPRA.out z (by simp [hx]))
        have HPR3 := Lib.hid (show ∀ z ∈ rb, z.path.size ≤ 1000000 from fun z hx => HPRB.out z (by simp [hx]))
        have HIA2 := Lib.hid (HIA.out.tailc h1)
        have HIB2 := Lib.hid (HIB.out.tailc h2)
        have HQ := Lib.hid fun W (hb : Below w2.heap.size w2 W) => (HIA.out.below hb).head
        have HQ' := Lib.hid fun W (hb : Below w2.heap.size w2 W) => (HIB.out.below hb).head
        have HC := Lib.hid hbp
        have hz0 : ¬ (ra.length : Int) + 1 = 0 := by omega
        have hz1 : (0 : Int) < (ra.length : Int) + 1 := by omega
        have hz2 : (1 : Int) ≤ (ra.length : Int) + 1 := by omega
        have hz3 : (ra.length : Int) + 1 ≤ (ca' : Int) := by omega
        have hy0 : ¬ (rb.length : Int) + 1 = 0 := by omega
        have hy1 : (0 : Int) < (rb.length : Int) + 1 := by omega
        have hy2 : (1 : Int) ≤ (rb.length : Int) + 1 := by omega
        have hy3 : (rb.length : Int) + 1 ≤ (cb' : Int) := by omega
        clear hbp
        go_upto_region 10 with fail
        go_region_law (first
          | (go_simp; go_at_call 90; refine HC.out.mono ?_; rintro e wT ⟨rfl, hbT⟩))
        all_goals
          have HB3 := Lib.hid (HB.out.trans ((((Below.refl wr.heap.size wr).drew).trans hbT).mono HB.out.size))
          have HO3 := Lib.hid (own_atN HO.out fun i hi => hbT.block i (HO.out.lt i hi).2)
          clear hbT
          obtain ⟨g1, o1, e1, hg1, p0, p1, p2, p3, p4⟩ := HQ.out wT HB3.out
          injection e1 with e1
          injection e1 with e1 e2
          subst e1 e2
          obtain ⟨g1, o1, e1, hg1', q0, q1, q2, q3, q4⟩ := HQ'.out wT HB3.out
          injection e1 with e1
          injection e1 with e1 e2
          subst e1 e2
          have HD0 := Lib.hid HD.out
          generalize hcq : cmpL (partsP x.path) (partsP y.path) = cq at *
          rcases (by omega : cq = -1 ∨ cq = 0 ∨ cq = 1) with hq | hq | hq
          · subst hq
            have HD2 := Lib.hid (show (out ++ [(x.path, 2)]) ++ diffL ra (y :: rb) = diffL sa sb by rw [← HD0.out, diff_lt (by rw [hcq]; decide)]; simp)
            clear hcq hrg
            go_wp2_with (at_builtin; refine wpList_app1s rfl _ _ 90 rfl w2.heap.size 97 Tryd.underlying90 infoChg rfl (by decide) _ _ _ rfl HO3.out _ (by simp) rfl rfl (by simp [Value.oneCell']) (by omega) (by omega) HB3.out.size ?_; intro g5 cap5 w7 ho5 hg5 hb5 hl5
                         have HO7 := Lib.hid (show w7.ownsRow w2.heap.size 97 2 (.slice (some ⟨g5, 0, none⟩) (out.length + 1) cap5) (out.length + 1) (chgsC (out ++ [(x.path, 2)])) by
                           rw [chgsC_add]
                           exact ho5)
                         have HB7 := Lib.hid (HB3.out.grown hg5 HB3.out.size fun j hj => (HO3.out.lt j hj).1)
                         clear ho5 hg5 hb5 hl5)
            go_wp2
            go_roundw
            case rel => exact ⟨ra, y :: rb, out ++ [(x.path, 2)], _, _, some ⟨g5, 0, none⟩, ca' - 1, cb', cap5, rfl, rfl, by simp, by omega, by rw [List.length_cons]; omega, by simp only [List.length_append, List.length_cons, List.length_nil]; omega, HIA2, HIB, HPR2, HPRB, HD2, Lib.hid (by simpa using HO7.out), HB7⟩
            case measure => simp [rlen]
          · subst hq
            by_cases he : x = y
            · have hv : neI ⟨x.path, x.kind, x.mode, x.time, x.data⟩ ⟨y.path, y.kind, y.mode, y.time, y.data⟩ = false := by
                show neI x y = false
                unfold neI
                rw [decide_eq_true he]
                rfl
              have HD2 := Lib.hid (show out ++ diffL ra rb = diffL sa sb by rw [← HD0.out, diff_eq hcq he])
              have HB4 := Lib.hid HB3.out.drew.drew
              have HO4 := Lib.hid (own_atN HO3.out fun i _ => rfl : wT.drew.drew.ownsRow _ _ _ _ _ _)
              clear he hcq hrg
              go_upto_region 15 with fail
              go_region
              go_upto_region 17 with fail
              go_region
              go_wp2
              go_roundw
              case rel => exact ⟨ra, rb, out, _, _, O, ca' - 1, cb' - 1, d, rfl, rfl, by simp, by omega, by omega, by omega, HIA2, HIB2, HPR2, HPR3, HD2, HO4, HB4⟩
              case measure => simp [rlen]; omega
            · have hv : neI ⟨x.path, x.kind, x.mode, x.time, x.data⟩ ⟨y.path, y.kind, y.mode, y.time, y.data⟩ = true := by
                show neI x y = true
                unfold neI
                rw [decide_eq_false he]
                rfl
              have HD2 := Lib.hid (show (out ++ [(x.path, 3)]) ++ diffL ra rb = diffL sa sb by rw [← HD0.out, diff_ne hcq he]; simp)
              have HB4 := Lib.hid HB3.out.drew
              have HO4 := Lib.hid (own_atN HO3.out fun i _ => rfl : wT.drew.ownsRow _ _ _ _ _ _)
              clear he hcq hrg
              go_upto_region 15 with fail
              go_region
              go_wp2_with (at_builtin; refine wpList_app1s rfl _ _ 90 rfl w2.heap.size 97 Tryd.underlying90 infoChg rfl (by decide) _ _ _ rfl HO4.out _ (by simp) rfl rfl (by simp [Value.oneCell']) (by omega) (by omega) HB4.out.size ?_; intro g5 cap5 w7 ho5 hg5 hb5 hl5
                           have HO7 := Lib.hid (show w7.ownsRow w2.heap.size 97 2 (.slice (some ⟨g5, 0, none⟩) (out.length + 1) cap5) (out.length + 1) (chgsC (out ++ [(x.path, 3)])) by
                             rw [chgsC_add]
                             exact ho5)
                           have HB7 := Lib.hid (HB4.out.grown hg5 HB4.out.size fun j hj => (HO4.out.lt j hj).1)
                           clear ho5 hg5 hb5 hl5)
              go_upto_region 17 with fail
              go_region
              go_wp2
              go_roundw
              case rel => exact ⟨ra, rb, out ++ [(x.path, 3)], _, _, some ⟨g5, 0, none⟩, ca' - 1, cb' - 1, cap5, rfl, rfl, by simp, by omega, by omega, by simp only [List.length_append, List.length_cons, List.length_nil]; omega, HIA2, HIB2, HPR2, HPR3, HD2, Lib.hid (by have h8 : w7.drew.ownsRow _ _ _ _ _ _ := own_atN HO7.out (fun i _ => rfl); simpa using h8), Lib.hid HB7.out.drew⟩
              case measure => simp [rlen]; omega
          · subst hq
            have HD2 := Lib.hid (show (out ++ [(y.path, 1)]) ++ diffL (x :: ra) rb = diffL sa sb by rw [← HD0.out, diff_gt (by rw [hcq]; decide) (by rw [hcq]; decide)]; simp)
            clear hcq hrg
            go_wp2_with (at_builtin; refine wpList_app1s rfl _ _ 90 rfl w2.heap.size 97 Tryd.underlying90 infoChg rfl (by decide) _ _ _ rfl HO3.out _ (by simp) rfl rfl (by simp [Value.oneCell']) (by omega) (by omega) HB3.out.size ?_; intro g5 cap5 w7 ho5 hg5 hb5 hl5
                         have HO7 := Lib.hid (show w7.ownsRow w2.heap.size 97 2 (.slice (some ⟨g5, 0, none⟩) (out.length + 1) cap5) (out.length + 1) (chgsC (out ++ [(y.path, 1)])) by
                           rw [chgsC_add]
                           exact ho5)
                         have HB7 := Lib.hid (HB3.out.grown hg5 HB3.out.size fun j hj => (HO3.out.lt j hj).1)
                         clear ho5 hg5 hb5 hl5)
            go_wp2
            go_roundw
            case rel => exact ⟨x :: ra, rb, out ++ [(y.path, 1)], _, _, some ⟨g5, 0, none⟩, ca', cb' - 1, cap5, rfl, rfl, by simp, by rw [List.length_cons]; omega, by omega, by simp only [List.length_append, List.length_cons, List.length_nil]; omega, HIA, HIB2, HPRA, HPR3, HD2, Lib.hid (by simpa using HO7.out), HB7⟩
            case measure => simp [rlen]
end Go.Proofs.YtaoejgnfoecpfaaDoor
namespace Go.Proofs.YtaoejgnfoecpfaaDoor
set_option linter.unusedVariables false
set_option linter.unusedSimpArgs false
set_option linter.unusedSectionVars false
open Go.RowKit

set_option maxRecDepth 100000 in
theorem turned_any (n : Nat) (h : n = 1 ∨ n = 2 ∨ n = 3) (w : World) :
    Calls Tryd.prog 60 #[.int .i64 n, .int .i64 (turnN n)] w fun e w' => e = .returned (.bool true) ∧ w' = w := by
  rcases h with rfl | rfl | rfl
  all_goals
    simp only [turnN]
    go_enter Tryd.func60, Tryd.ntmps60
    go_wp2
    go_ret
    exact ⟨rfl, rfl⟩
end Go.Proofs.YtaoejgnfoecpfaaDoor
namespace Go.Proofs.YtaoejgnfoecpfaaDoor
set_option linter.unusedVariables false
set_option linter.unusedSimpArgs false
set_option linter.unusedSectionVars false
open Go.RowKit

theorem chgs_at : ∀ {D : List (ByteArray × Nat)} {i : Nat} (h : i < D.length), (chgsC D)[i * 2]? = some (.string D[i].1) ∧ (chgsC D)[i * 2 + 1]? = some (.int .i64 D[i].2)
  | x :: r, 0, _ => ⟨rfl, rfl⟩
  | x :: r, i + 1, h => by
    have hi : i < r.length := by simpa using h
    have ih := chgs_at hi
    have e : chgsC (x :: r) = [.string x.1, .int .i64 x.2] ++ chgsC r := rfl
    rw [e, List.getElem?_append_right (by simp; omega), List.getElem?_append_right (by simp; omega)]
    simp only [List.length_cons, List.length_nil, List.getElem_cons_succ]
    rw [show (i + 1) * 2 - (0 + 1 + 1) = i * 2 by omega, show (i + 1) * 2 + 1 - (0 + 1 + 1) = i * 2 + 1 by omega]
    exact ih
theorem own_chg {w : World} {B n c : Nat} {A : Option Addr} {D : List (ByteArray × Nat)} (h : w.ownsRow B 97 2 (.slice A n c) n (chgsC D)) (hn : n = D.length) {i : Nat} (hi : i < D.length) :
    ∃ g, A = some ⟨g, 0, none⟩ ∧ g < w.heap.size ∧ w.cell? ⟨g, i * 2, none⟩ = some (.string D[i].1) ∧ w.cell? ⟨g, i * 2 + 1, none⟩ = some (.int .i64 D[i].2) := by
  rcases h.2 with ⟨hv, h0⟩ | ⟨g, cap, cur, hv, _, hg, _, _, _, htake⟩
  · omega
  · simp only [Value.slice.injEq] at hv
    obtain ⟨rfl, _, rfl⟩ := hv
    obtain ⟨h1, h2⟩ := chgs_at hi
    rw [← htake, List.getElem?_take, if_pos (by omega)] at h1
    rw [← htake, List.getElem?_take, if_pos (by omega)] at h2
    refine ⟨g, rfl, (Array.getElem?_eq_some_iff.1 hg).1, ?_, ?_⟩
    · rw [cell_of_row w g (i * 2) cur _ _ hg]
      simpa using h1
    · rw [cell_of_row w g (i * 2 + 1) cur _ _ hg]
      simpa using h2
end Go.Proofs.YtaoejgnfoecpfaaDoor
namespace Go.Proofs.YtaoejgnfoecpfaaDoor
set_option linter.unusedVariables false
set_option linter.unusedSimpArgs false
set_option linter.unusedSectionVars false
open Go.RowKit

theorem rev_snoc {L : List Itm} {k : Nat} (h : k < L.length) : (L.take (k + 1)).reverse = L[k] :: (L.take k).reverse := by
  rw [List.take_succ_eq_append_getElem h, List.reverse_append]
  rfl
set_option maxRecDepth 100000 in
set_option maxHeartbeats 12800000 in
theorem wturns_all (A B : Option Addr) (ca cb : Nat) (la lb : List Itm) (w : World) (he : Env w) (hi : ItmA w A la) (hj : ItmA w B lb) (hb : ∀ x ∈ la, ItB x) (hb' : ∀ x ∈ lb, ItB x) (hn : A = none → ca = 0) (hn' : B = none → cb = 0) (hc : la.length ≤ ca) (hc' : lb.length ≤ cb) :
    Calls Tryd.prog 14 #[.slice A la.length ca, .slice B lb.length cb] w fun e w' => e = .returned (.bool true) ∧ Below w.heap.size w w' := by
  have HE := Lib.hid fun W (hb : Below w.heap.size w W) => he.below hb
  have HAW := Lib.hid fun W (h : Env W) => awake13_any W h
  have HF := Lib.hid (ifew_any A ca la 100 w hi hn hc (by decide))
  have HG := Lib.hid fun W (hw : Below w.heap.size w W) => ifew_any B cb lb 100 W (hj.below hw) hn' hc' (by decide)
  have HLB := Lib.hid (show ∀ x ∈ la.take 100, ItB x from fun x hx => hb x (List.mem_of_mem_take hx))
  have HMB := Lib.hid (show ∀ x ∈ lb.take 100, ItB x from fun x hx => hb' x (List.mem_of_mem_take hx))
  have hl100 : (la.take 100).length ≤ 100 := by rw [List.length_take]; omega
  have hm100 : (lb.take 100).length ≤ 100 := by rw [List.length_take]; omega
  clear he hi hj hb hb' hn hn' hc hc'
  generalize la.take 100 = L at *
  generalize lb.take 100 = M at *
  go_enter Tryd.func14, Tryd.ntmps14
  go_wp2_with fail
  refine HF.out.mono ?_
  rintro e w1 ⟨A1, c1, rfl, ho1, hn1, hb1⟩
  have HB1 := Lib.hid hb1
  have HI1 := Lib.hid (own_itmA ho1 rfl)
  clear HF ho1 hb1
  go_wp2_with fail
  refine (HG.out _ HB1.out).mono ?_
  rintro e w2 ⟨A2, c2, rfl, ho2, hn2, hb2⟩
  have HB2 := Lib.hid (HB1.out.trans (hb2.mono HB1.out.size))
  have HI2 := Lib.hid (HI1.out.below hb2)
  have HJ2 := Lib.hid (own_itmA ho2 rfl)
  clear HG ho2 hb2 HI1 HB1
  have HB3 := Lib.hid ((Below.refl w2.heap.size w2).alloc (Nat.le_refl _) (.cells #[] 59))
  have HO3 := Lib.hid (own_emptyI (w := w2) (B := w2.heap.size) (Nat.le_refl _))
  go_wp2
  go_loopw [7, 28] (fun ov iv wr => ∃ (k : Nat) (C : Option Addr) (d : Nat), ov = .slice C k d ∧ iv = .int .i64 (k : Nat) ∧ k ≤ L.length ∧ Hid (wr.ownsRow w2.heap.size 59 5 (.slice C k d) k (itmsC (L.take k).reverse)) ∧ Hid (Below w2.heap.size w2 wr) ∧ Hid (C = none → d = 0)) (fun _ iv _ => L.length - (intOf iv).toNat)
  case atStart => exact ⟨0, _, 0, rfl, rfl, Nat.zero_le _, HO3, HB3, Lib.hid (fun h => by cases h)⟩
  case round =>
    clear HB3 HO3
    obtain ⟨k, C, d, rfl, rfl, hk, HO, HB, HNC⟩ := hrel
    by_cases hkl : k < L.length
    · have hki : (k : Int) < (L.length : Int) := by omega
      have hrv := rev_snoc hkl
      have hrl : (L.take k).reverse.length = k := by rw [List.length_reverse, List.length_take]; omega
      obtain ⟨g, o, rfl, hg, hcc⟩ := HI2.out.below HB.out (by omega)
      obtain ⟨q0, q1, q2, q3, q4⟩ := itm_cells hcc hkl
      clear hcc
      generalize hRd : (L.take k).reverse = R at *
      have HRV := Lib.hid hrv
      clear hrv hRd
      generalize L[k] = x at *
      obtain ⟨pa, ki, mo, ti, da⟩ := x
      simp only at q0 q1 q2 q3 q4
      have hba := (Below.refl wr.heap.size wr).alloc (Nat.le_refl _) (.cells #[.string pa, .int .i64 ki, .int .i64 mo, .int .i64 ti, .string da] 59)
      have HB5 := Lib.hid (HB.out.trans (hba.mono HB.out.size))
      have HK := Lib.hid (Blk.new wr 59 #[.string pa, .int .i64 ki, .int .i64 mo, .int .i64 ti, .string da])
      have HIR := Lib.hid ((own_itmA HO.out hrl.symm).below hba)
      clear hba
      obtain ⟨wo, rfl⟩ : ∃ wo : World, wo = wr := ⟨_, rfl⟩
      go_upto_region 6 with fail
      generalize wo.alloc (.cells #[.string pa, .int .i64 ki, .int .i64 mo, .int .i64 ti, .string da] 59) = w5 at *
      have c0 : w5.cell? ⟨wo.heap.size, 0, none⟩ = some (.string pa) := HK.out.cell 0
      have c1' : w5.cell? ⟨wo.heap.size, 1, none⟩ = some (.int .i64 ki) := HK.out.cell 1
      have c2' : w5.cell? ⟨wo.heap.size, 2, none⟩ = some (.int .i64 mo) := HK.out.cell 2
      have c3' : w5.cell? ⟨wo.heap.size, 3, none⟩ = some (.int .i64 ti) := HK.out.cell 3
      have c4' : w5.cell? ⟨wo.heap.size, 4, none⟩ = some (.string da) := HK.out.cell 4
      have hb6 := (Below.refl w5.heap.size w5).alloc (Nat.le_refl _) (.cells #[.string pa, .int .i64 ki, .int .i64 mo, .int .i64 ti, .string da] 59)
      have HB6 := Lib.hid (HB5.out.trans (hb6.mono HB5.out.size))
      have HIR6 := Lib.hid (HIR.out.below (hb6.mono (Nat.le_refl _)))
      have HO6 := Lib.hid (show (w5.alloc (.cells #[.string pa, .int .i64 ki, .int .i64 mo, .int .i64 ti, .string da] 59)).ownsRow w2.heap.size 59 5 (.slice (some ⟨w5.heap.size, 0, none⟩) 1 1) 1 (itmsC [⟨pa, ki, mo, ti, da⟩]) from World.ownsRow_lit (e := 59) (size := 5) (base := w2.heap.size) w5 #[.string pa, .int .i64 ki, .int .i64 mo, .int .i64 ti, .string da] 1 HB5.out.size (by decide) rfl)
      clear hb6
      go_wp2_with (at_builtin; refine wpList_appItems rfl _ _ rfl w2.heap.size _ 1 [⟨pa, ki, mo, ti, da⟩] rfl HO6.out C d R (by rw [hrl]; rfl) HIR6.out HNC.out (by omega) HB6.out.size ?_; intro A' c' w7 ho7 hg7 hn7
                   have HO7 := Lib.hid ho7
                   have HB7 := Lib.hid (HB6.out.grown hg7 HB6.out.size fun j hj => (HO6.out.lt j hj).1)
                   have HN7 := Lib.hid hn7
                   clear ho7 hg7 hn7
                   rw [hrl, show 1 + k = k + 1 by omega]
                   rw [hrl, show 1 + k = k + 1 by omega] at HO7)
      go_wp2
      go_roundw
      case rel => exact ⟨k + 1, A', c', rfl, by go_num, by omega, Lib.hid (by rw [HRV.out]; exact HO7.out), HB7, HN7⟩
      case measure => simp [intOf]; omega
    · obtain rfl : k = L.length := by omega
      have hki : ¬ (L.length : Int) < (L.length : Int) := by omega
      have hO := HO.out
      rw [List.take_length] at hO
      have HIR := Lib.hid (own_itmA hO (by rw [List.length_reverse]))
      have HBW := Lib.hid (HB2.out.trans (HB.out.mono HB2.out.size))
      have HIL := Lib.hid (HI2.out.below HB.out)
      have HIM := Lib.hid (HJ2.out.below HB.out)
      have HRB := Lib.hid (show ∀ x ∈ L.reverse, ItB x from fun x hx => HLB.out x (List.mem_reverse.1 hx))
      have HRP := Lib.hid (List.reverse_perm L)
      clear hO HO HB HNC HI2 HJ2 HB2
      go_wp2_with fail
      refine (wcheck_any A1 c1 L wr (HE.out _ HBW.out) HIL.out HLB.out (by omega)).mono ?_
      rintro e w3 ⟨n3, rfl, hch3, hb3⟩
      have HT := Lib.hid (chk_zero hch3)
      have HTR := Lib.hid (tree_perm HRP.out)
      have HB3 := Lib.hid (HBW.out.trans (hb3.mono HBW.out.size))
      have HIR3 := Lib.hid (HIR.out.below hb3)
      have HIL3 := Lib.hid (HIL.out.below hb3)
      have HIM3 := Lib.hid (HIM.out.below hb3)
      clear hch3 hb3 HBW HIR HIL HIM
      by_cases hn3 : n3 = 0
      rotate_left
      · have hnz : ((n3 : Int) != 0) = true := by
          have : ¬ (n3 : Int) = 0 := by omega
          simpa using this
        have hnz2 : ¬ (n3 : Int) = 0 := by omega
        have HNT := Lib.hid (show ¬ TreeOk L from fun h => hn3 (HT.out.2 h))
        clear hn3 HT
        go_wp2_with fail
        refine (HAW.out _ (HE.out _ HB3.out)).mono ?_
        rintro e w4 ⟨rfl, hb4⟩
        have HB4 := Lib.hid (HB3.out.trans (hb4.mono HB3.out.size))
        have HIR4 := Lib.hid (HIR3.out.below hb4)
        have HIL4 := Lib.hid (HIL3.out.below hb4)
        clear hb4 HB3 HIR3 HIL3 HIM3
        go_wp2_with fail
        refine (wcheck_any A1 c1 L w4 (HE.out _ HB4.out) HIL4.out HLB.out (by omega)).mono ?_
        rintro e w5 ⟨n5, rfl, hch5, hb5⟩
        have HB5 := Lib.hid (HB4.out.trans (hb5.mono HB4.out.size))
        have HIR5 := Lib.hid (HIR4.out.below hb5)
        have hn5 : n5 ≠ 0 := fun h => HNT.out ((chk_zero hch5).1 h)
        have hz5 : ¬ (n5 : Int) = 0 := by omega
        have hb5' : ((n5 : Int) == 0) = false := by simpa using hz5
        clear hch5 hb5 hn5 HB4 HIR4 HIL4
        have hk6 := wcheck_any C d L.reverse w5 (HE.out _ HB5.out) HIR5.out HRB.out (by rw [List.length_reverse]; omega)
        rw [List.length_reverse] at hk6
        go_wp2_with fail
        refine hk6.mono ?_
        rintro e w6 ⟨n6, rfl, hch6, hb6⟩
        have HB6 := Lib.hid (HB5.out.trans (hb6.mono HB5.out.size))
        have hn6 : n6 ≠ 0 := fun h => HNT.out (HTR.out.1 ((chk_zero hch6).1 h))
        have hz6 : ¬ (n6 : Int) = 0 := by omega
        have hb6' : ((n6 : Int) == 0) = false := by simpa using hz6
        clear hch6 hb6 hn6 hk6
        go_wp2
        go_ret
        exact ⟨rfl, HB6.out⟩
      subst hn3
      have HTL := Lib.hid (HT.out.1 rfl)
      clear HT
      go_wp2_with fail
      refine (wcheck_any A2 c2 M w3 (HE.out _ HB3.out) HIM3.out HMB.out (by omega)).mono ?_
      rintro e w4 ⟨n4, rfl, hch4, hb4⟩
      have HTM := Lib.hid (chk_zero hch4)
      have HB4 := Lib.hid (HB3.out.trans (hb4.mono HB3.out.size))
      have HIR4 := Lib.hid (HIR3.out.below hb4)
      have HIL4 := Lib.hid (HIL3.out.below hb4)
      have HIM4 := Lib.hid (HIM3.out.below hb4)
      clear hch4 hb4 HB3 HIR3 HIL3 HIM3
      by_cases hn4 : n4 = 0
      rotate_left
      · have hnz : ((n4 : Int) != 0) = true := by
          have : ¬ (n4 : Int) = 0 := by omega
          simpa using this
        have hnz2 : ¬ (n4 : Int) = 0 := by omega
        clear hn4 HTM
        go_wp2_with fail
        refine (HAW.out _ (HE.out _ HB4.out)).mono ?_
        rintro e w5 ⟨rfl, hb5⟩
        have HB5 := Lib.hid (HB4.out.trans (hb5.mono HB4.out.size))
        have HIR5 := Lib.hid (HIR4.out.below hb5)
        have HIL5 := Lib.hid (HIL4.out.below hb5)
        clear hb5 HB4 HIR4 HIL4 HIM4
        go_wp2_with fail
        refine (wcheck_any A1 c1 L w5 (HE.out _ HB5.out) HIL5.out HLB.out (by omega)).mono ?_
        rintro e w6 ⟨n6, rfl, hch6, hb6⟩
        obtain rfl : n6 = 0 := (chk_zero hch6).2 HTL.out
        have HB6 := Lib.hid (HB5.out.trans (hb6.mono HB5.out.size))
        have HIR6 := Lib.hid (HIR5.out.below hb6)
        clear hch6 hb6 HB5 HIR5 HIL5
        have hk7 := wcheck_any C d L.reverse w6 (HE.out _ HB6.out) HIR6.out HRB.out (by rw [List.length_reverse]; omega)
        rw [List.length_reverse] at hk7
        go_wp2_with fail
        refine hk7.mono ?_
        rintro e w7 ⟨n7, rfl, hch7, hb7⟩
        obtain rfl : n7 = 0 := (chk_zero hch7).2 (HTR.out.2 HTL.out)
        have HB7 := Lib.hid (HB6.out.trans (hb7.mono HB6.out.size))
        clear hch7 hb7 hk7
        go_wp2
        go_ret
        exact ⟨rfl, HB7.out⟩
      subst hn4
      have HTN := Lib.hid (HTM.out.1 rfl)
      clear HTM
      have hd5 := wdiff_any A1 C c1 d L L.reverse w4 (HE.out _ HB4.out) HIL4.out HIR4.out HLB.out HRB.out HTL.out (HTR.out.2 HTL.out)
      rw [List.length_reverse] at hd5
      go_wp2_with fail
      refine hd5.mono ?_
      rintro e w5 ⟨sa, sb, hpa, hsa, hpb, hsb, hb5, B5, d5, rfl, ho5⟩
      have hap : Apart sa := (apart_perm hpa).2 HTL.out.apart
      have HUA := Lib.hid (show ∀ ys : List Itm, ys.Perm L → SortedI ys → ys = sa from fun ys h1 h2 => (sorted_one sa ys (hpa.trans h1.symm) hsa h2 hap).symm)
      have hnil : diffL sa sb = [] := by
        rw [HUA.out sb (hpb.trans HRP.out) hsb]
        exact diff_self sa
      rw [hnil]
      have HB5 := Lib.hid (HB4.out.trans (hb5.mono HB4.out.size))
      have HIR5 := Lib.hid (HIR4.out.below hb5)
      have HIL5 := Lib.hid (HIL4.out.below hb5)
      have HIM5 := Lib.hid (HIM4.out.below hb5)
      clear hd5 hpa hsa hpb hsb hb5 ho5 hap hnil HB4 HIR4 HIL4 HIM4
      go_wp2_with fail
      refine (wdiff_any A1 A2 c1 c2 L M w5 (HE.out _ HB5.out) HIL5.out HIM5.out HLB.out HMB.out HTL.out HTN.out).mono ?_
      rintro e w6 ⟨sa6, sb6, hpa, hsa, hpb, hsb, hb6, B6, d6, rfl, ho6⟩
      obtain rfl := HUA.out sa6 hpa hsa
      have hap : Apart sb6 := (apart_perm hpb).2 HTN.out.apart
      have HUB := Lib.hid (show ∀ ys : List Itm, ys.Perm M → SortedI ys → ys = sb6 from fun ys h1 h2 => (sorted_one sb6 ys (hpb.trans h1.symm) hsb h2 hap).symm)
      have HB6 := Lib.hid (HB5.out.trans (hb6.mono HB5.out.size))
      have HIR6 := Lib.hid (HIR5.out.below hb6)
      have HIL6 := Lib.hid (HIL5.out.below hb6)
      have HIM6 := Lib.hid (HIM5.out.below hb6)
      have HO6 := Lib.hid ho6
      clear hpa hsa hpb hsb hb6 ho6 hap HB5 HIR5 HIL5 HIM5
      go_wp2_with fail
      refine (wdiff_any A2 A1 c2 c1 M L w6 (HE.out _ HB6.out) HIM6.out HIL6.out HMB.out HLB.out HTN.out HTL.out).mono ?_
      rintro e w7 ⟨sb7, sa7, hpb, hsb, hpa, hsa, hb7, B7, d7, rfl, ho7⟩
      obtain rfl := HUA.out sa7 hpa hsa
      obtain rfl := HUB.out sb7 hpb hsb
      have hturn := diff_turn _ sa7 sb7 rfl
      have HWH := Lib.hid (diff_what _ sa7 sb7 rfl)
      have hdl := diff_len _ sa7 sb7 rfl
      have hla : sa7.length ≤ 100 := by have := hpa.length_eq; omega
      have hlb : sb7.length ≤ 100 := by have := hpb.length_eq; omega
      rw [hturn] at ho7 ⊢
      generalize diffL sa7 sb7 = D at *
      have hDl : D.length ≤ 200 := by omega
      have HB7 := Lib.hid (HB6.out.trans (hb7.mono HB6.out.size))
      have HIR7 := Lib.hid (HIR6.out.below hb7)
      have HIL7 := Lib.hid (HIL6.out.below hb7)
      have HO7 := Lib.hid (own_atN HO6.out fun i hi => hb7.block i (HO6.out.lt i hi).2)
      have HM7 := Lib.hid ho7
      clear hturn hdl hla hlb hpa hsa hpb hsb hb7 ho7 HB6 HIR6 HIL6 HIM6 HO6
      rw [List.length_map]
      rw [List.length_map] at HM7
      go_wp2
      go_loopw [97] (fun iv wr => ∃ i : Nat, iv = .int .i64 i ∧ i ≤ D.length ∧ Hid (Below w7.heap.size w7 wr)) (fun iv _ => D.length - (intOf iv).toNat)
      case atStart => exact ⟨0, rfl, Nat.zero_le _, Lib.hid (Below.refl _ _)⟩
      case round =>
        obtain ⟨i, rfl, hid, HBR⟩ := hrel
        by_cases hil : i < D.length
        · have hii : (i : Int) < (D.length : Int) := by omega
          have hi0 : (0 : Int) ≤ (i : Int) := by omega
          obtain ⟨g, rfl, hg, p0, p1⟩ := own_chg HO7.out rfl hil
          obtain ⟨g', rfl, hg', q0, q1⟩ := own_chg HM7.out (by rw [List.length_map]) (i := i) (by rw [List.length_map]; exact hil)
          rw [List.getElem_map] at q0 q1
          have hwh := HWH.out _ (List.getElem_mem hil)
          simp only [turnC] at q0 q1
          generalize D[i] = cg at *
          obtain ⟨pth, wt⟩ := cg
          simp only at p0 p1 q0 q1 hwh
          have r0 := (HBR.out.cell (p := ⟨g, i * 2, none⟩) hg).trans p0
          have r1 := (HBR.out.cell (p := ⟨g, i * 2 + 1, none⟩) hg).trans p1
          have s0 := (HBR.out.cell (p := ⟨g', i * 2, none⟩) hg').trans q0
          have s1 := (HBR.out.cell (p := ⟨g', i * 2 + 1, none⟩) hg').trans q1
          have hpp : (pth.toList == pth.toList) = true := by simp
          have HTU := Lib.hid (turned_any wt hwh)
          clear p0 p1 q0 q1 hwh
          go_upto_region 18 with fail
          go_quiet (first | (go_at_call 60; exact Calls.quiet_of_same (HTU.out _)))
          go_wp2
          go_roundw
          case rel => exact ⟨i + 1, by go_num, by omega, Lib.hid (HBR.out.trans ⟨rfl, rfl, rfl, Nat.le_refl _, fun _ _ => rfl⟩)⟩
          case measure => simp [intOf]; omega
        · obtain rfl : i = D.length := by omega
          have hii : ¬ (D.length : Int) < (D.length : Int) := by omega
          have HB8 := Lib.hid (HB7.out.trans (HBR.out.mono HB7.out.size))
          have HIL8 := Lib.hid (HIL7.out.below HBR.out)
          have HIR8 := Lib.hid (HIR7.out.below HBR.out)
          clear HB7 HIR7 HIL7 HBR HO7 HM7 HWH HUB
          go_wp2_with fail
          refine (wwalk_any A1 c1 L wr (HE.out _ HB8.out) HIL8.out HLB.out (by omega)).mono ?_
          rintro e w9 ⟨n9, hch, hb9, hor⟩
          rcases hor with ⟨hn9, rfl⟩ | ⟨rfl, X, cx, xs, rfl, hix, hpx, hsx, hlx, hcx⟩
          · exact absurd ((chk_zero hch).2 HTL.out) hn9
          have HXS := Lib.hid (HUA.out xs hpx hsx)
          have HLX := Lib.hid hlx
          have HB9 := Lib.hid (HB8.out.trans (hb9.mono HB8.out.size))
          have HIR9 := Lib.hid (HIR8.out.below hb9)
          have HIX9 := Lib.hid hix
          clear hch hb9 hix hpx hsx hlx hcx HB8 HIL8 HIR8
          have hk := wwalk_any C d L.reverse w9 (HE.out _ HB9.out) HIR9.out HRB.out (by rw [List.length_reverse]; omega)
          rw [List.length_reverse] at hk
          go_wp2_with fail
          refine hk.mono ?_
          rintro e w10 ⟨n10, hch, hb10, hor⟩
          rcases hor with ⟨hn10, rfl⟩ | ⟨rfl, Y, cy, ys, rfl, hiy, hpy, hsy, hly, hcy⟩
          · exact absurd ((chk_zero hch).2 (HTR.out.2 HTL.out)) hn10
          have hxy : decide (xs = ys) = true := decide_eq_true (HXS.out.trans (HUA.out ys (hpy.trans HRP.out) hsy).symm)
          have HB10 := Lib.hid (HB9.out.trans (hb10.mono HB9.out.size))
          have HIX10 := Lib.hid (HIX9.out.below hb10)
          have HIY10 := Lib.hid hiy
          clear hk hch hb10 hiy hpy hsy hly hcy HB9 HIR9 HIX9 HUA
          go_wp2_with fail
          refine (HAW.out _ (HE.out _ HB10.out)).mono ?_
          rintro e w11 ⟨rfl, hb11⟩
          have HB11 := Lib.hid (HB10.out.trans (hb11.mono HB10.out.size))
          have hs := isame_any X Y cx cy xs ys w11 (HIX10.out.below hb11) (HIY10.out.below hb11) (by rw [HLX.out]; omega)
          rw [hxy] at hs
          have HS := Lib.hid hs
          clear hs hb11 HB10 HIX10 HIY10
          go_wp2_with fail
          refine HS.out.mono ?_
          rintro e w12 ⟨rfl, hb12⟩
          have HB12 := Lib.hid (HB11.out.trans (hb12.mono HB11.out.size))
          have hll : (xs.length : Int) = (L.length : Int) := by rw [HLX.out]
          have hlb : ((xs.length : Int) == (L.length : Int)) = true := by simpa using hll
          clear hb12 HS HB11 HXS HLX hxy
          go_wp2
          go_ret
          exact ⟨rfl, HB12.out⟩
theorem wturns_card (l : List Itm) (v : Value) (m : List Itm) (u : Value) (w : World) (he : Env w) (hp : ItmP w v l) (hq : ItmP w u m) :
    Calls Tryd.prog 14 #[v, u] w fun e w' => e = .returned (.bool true) ∧ Below w.heap.size w w' := by
  obtain ⟨A, c, rfl, hi, hl, hb, hn, hc⟩ := hp
  obtain ⟨B, d, rfl, hj, hm, hb', hn', hd⟩ := hq
  exact wturns_all A B c d l m w he hi hj hb hb' hn hn' hc hd
end Go.Proofs.YtaoejgnfoecpfaaDoor
