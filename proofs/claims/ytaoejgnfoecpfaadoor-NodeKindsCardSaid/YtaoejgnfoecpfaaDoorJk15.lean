/- A tree's nodes: are two lists of records the same?. A tree's nodes: the records of nodes. A tree's nodes: the records of a row of nodes. A tree's nodes: awake of layer 12, and Few. A tree's nodes: the program's node of a record. -/
import Derived.Test.YtaoejgnfoecpfaaDoorJk11
import Derived.Test.YtaoejgnfoecpfaaDoorJk14
import Derived.Deep.RegionHeld3
import Derived.Test.YtaoejgnfoecpfaaDoorJk13
import Derived.Test.YtaoejgnfoecpfaaDoorJk12
import Derived.Test.YtaoejgnfoecpfaaDoorJk10
namespace Go.Proofs.YtaoejgnfoecpfaaDoor
set_option linter.unusedVariables false
set_option linter.unusedSimpArgs false
set_option linter.unusedSectionVars false
open Go.RowKit

theorem txt_neb (a b : ByteArray) : (a.toList != b.toList) = !decide (a = b) := by
  have := txt_eqb a b
  rw [bne, this]
theorem int_neb (a b : Int) : (a != b) = !decide (a = b) := by rw [bne, int_eqb]
theorem len_neb (a b : Nat) : ((a : Int) != (b : Int)) = !decide (a = b) := by
  rw [int_neb]
  congr 1
  rw [Bool.eq_iff_iff, decide_eq_true_eq, decide_eq_true_eq]
  omega
theorem nr_ext {x y : Nr} (h0 : x.kind = y.kind) (h1 : x.at_ = y.at_) (h2 : x.mode = y.mode) (h3 : x.time = y.time) (h4 : x.size = y.size) (h5 : x.target = y.target) (h6 : x.chunks = y.chunks) : x = y := by
  cases x
  cases y
  simp_all
theorem take_eq_snoc {α : Type} {a b : List α} {k : Nat} (h : a.take k = b.take k) (ha : k < a.length) (hb : k < b.length) (he : a[k] = b[k]) : a.take (k + 1) = b.take (k + 1) := by
  rw [List.take_succ_eq_append_getElem ha, List.take_succ_eq_append_getElem hb, h, he]
theorem ne_of_get {α : Type} {a b : List α} {k : Nat} (ha : k < a.length) (hb : k < b.length) (he : a[k] ≠ b[k]) : a ≠ b := by
  rintro rfl
  exact he rfl
set_option maxRecDepth 100000 in
set_option maxHeartbeats 12800000 in
theorem nsame_any (la lb : List Nr) (A B : Option Addr) (ca cb : Nat) (w : World) (ha : RecsA w A la) (hb : RecsA w B lb) (hl : la.length ≤ 9223372036854775807) (hcl : ∀ x ∈ la, x.chunks.length ≤ 9223372036854775807) :
    Calls Tryd.prog 25 #[.slice A la.length ca, .slice B lb.length cb] w fun e w' => e = .returned (.bool (decide (la = lb))) ∧ Below w.heap.size w w' := by
  have HA := Lib.hid fun W (hb : Below w.heap.size w W) => ha.below hb
  have HB := Lib.hid fun W (h : Below w.heap.size w W) => hb.below h
  have HCL := Lib.hid hcl
  clear ha hb hcl
  by_cases hlen : la.length = lb.length
  · have hq : ((la.length : Int) != (lb.length : Int)) = false := by rw [len_neb, decide_eq_true hlen]; rfl
    have HLE := Lib.hid hlen
    clear hlen
    go_enter Tryd.func25, Tryd.ntmps25
    go_wp2
    go_loopw [16] (fun i wr => ∃ k : Nat, i = .int .i64 k ∧ k ≤ la.length ∧ la.take k = lb.take k ∧ Below w.heap.size w wr) (fun i _ => la.length - (intOf i).toNat)
    case atStart => exact ⟨0, rfl, Nat.zero_le _, by simp, Below.refl _ _⟩
    case round =>
      obtain ⟨k, rfl, hk, htk, hbel⟩ := hrel
      have HBL := Lib.hid hbel
      have HTK := Lib.hid htk
      clear htk
      by_cases hkl : k < la.length
      · have hkb : k < lb.length := by have := HLE.out; omega
        obtain ⟨g, o, rfl, hg, hcc⟩ := HA.out wr hbel (by omega)
        obtain ⟨X, cx, hcx, hsx⟩ := hcc k la[k] (List.getElem?_eq_getElem hkl)
        obtain ⟨g', o', rfl, hg', hcc'⟩ := HB.out wr hbel (by omega)
        obtain ⟨Y, cy, hcy, hsy⟩ := hcc' k lb[k] (List.getElem?_eq_getElem hkb)
        have HCK := Lib.hid (HCL.out _ (List.getElem_mem hkl))
        have HNE := Lib.hid (ne_of_get (a := la) (b := lb) hkl hkb)
        have HEQ := Lib.hid (take_eq_snoc HTK.out hkl hkb)
        clear hcc hcc' hbel
        generalize la[k] = x at *
        generalize lb[k] = y at *
        have p0 : wr.cell? ⟨g, o + k * 7, none⟩ = some (.int .i64 x.kind) := hcx 0 _ rfl
        have p1 : wr.cell? ⟨g, o + k * 7 + 1, none⟩ = some (.string x.at_) := hcx 1 _ rfl
        have p2 : wr.cell? ⟨g, o + k * 7 + 2, none⟩ = some (.int .i64 x.mode) := hcx 2 _ rfl
        have p3 : wr.cell? ⟨g, o + k * 7 + 3, none⟩ = some (.int .i64 x.time) := hcx 3 _ rfl
        have p4 : wr.cell? ⟨g, o + k * 7 + 4, none⟩ = some (.int .i64 x.size) := hcx 4 _ rfl
        have p5 : wr.cell? ⟨g, o + k * 7 + 5, none⟩ = some (.slice X x.chunks.length cx) := hcx 5 _ rfl
        have p6 : wr.cell? ⟨g, o + k * 7 + 6, none⟩ = some (.string x.target) := hcx 6 _ rfl
        have q0 : wr.cell? ⟨g', o' + k * 7, none⟩ = some (.int .i64 y.kind) := hcy 0 _ rfl
        have q1 : wr.cell? ⟨g', o' + k * 7 + 1, none⟩ = some (.string y.at_) := hcy 1 _ rfl
        have q2 : wr.cell? ⟨g', o' + k * 7 + 2, none⟩ = some (.int .i64 y.mode) := hcy 2 _ rfl
        have q3 : wr.cell? ⟨g', o' + k * 7 + 3, none⟩ = some (.int .i64 y.time) := hcy 3 _ rfl
        have q4 : wr.cell? ⟨g', o' + k * 7 + 4, none⟩ = some (.int .i64 y.size) := hcy 4 _ rfl
        have q5 : wr.cell? ⟨g', o' + k * 7 + 5, none⟩ = some (.slice Y y.chunks.length cy) := hcy 5 _ rfl
        have q6 : wr.cell? ⟨g', o' + k * 7 + 6, none⟩ = some (.string y.target) := hcy 6 _ rfl
        have hk0 : (0 : Int) ≤ (k : Int) := by omega
        have hka : (k : Int) < (la.length : Int) := by omega
        have hkb2 : (k : Int) < (lb.length : Int) := by omega
        have hk3 : ((k : Int)).toNat = k := by omega
        have HSX := Lib.hid hsx
        have HSY := Lib.hid hsy
        clear hcx hcy hsx hsy
        obtain ⟨wo, rfl⟩ : ∃ wo : World, wo = wr := ⟨_, rfl⟩
        go_upto_region 6 with fail
        have hba := (Below.refl wo.heap.size wo).alloc (Nat.le_refl _) (.cells (recC x X cx) 72)
        have HKA := Lib.hid (Blk.new wo 72 (recC x X cx))
        have HBA := Lib.hid hba
        have HQ := Lib.hid fun (i : Nat) (u : Value) (hi : wo.cell? ⟨g', o' + k * 7 + i, none⟩ = some u) => (hba.cell (p := ⟨g', o' + k * 7 + i, none⟩) hg').trans hi
        unfold recC at HKA HBA HQ
        generalize wo.alloc (.cells #[.int .i64 x.kind, .string x.at_, .int .i64 x.mode, .int .i64 x.time, .int .i64 x.size, .slice X x.chunks.length cx, .string x.target] 72) = wa at *
        have r0 : wa.cell? ⟨g', o' + k * 7, none⟩ = some (.int .i64 y.kind) := HQ.out 0 _ q0
        have r1 : wa.cell? ⟨g', o' + k * 7 + 1, none⟩ = some (.string y.at_) := HQ.out 1 _ q1
        have r2 : wa.cell? ⟨g', o' + k * 7 + 2, none⟩ = some (.int .i64 y.mode) := HQ.out 2 _ q2
        have r3 : wa.cell? ⟨g', o' + k * 7 + 3, none⟩ = some (.int .i64 y.time) := HQ.out 3 _ q3
        have r4 : wa.cell? ⟨g', o' + k * 7 + 4, none⟩ = some (.int .i64 y.size) := HQ.out 4 _ q4
        have r5 : wa.cell? ⟨g', o' + k * 7 + 5, none⟩ = some (.slice Y y.chunks.length cy) := HQ.out 5 _ q5
        have r6 : wa.cell? ⟨g', o' + k * 7 + 6, none⟩ = some (.string y.target) := HQ.out 6 _ q6
        clear p0 p1 p2 p3 p4 p5 p6 q0 q1 q2 q3 q4 q5 q6 hba
        go_upto_region 7 with fail
        have hbb := (Below.refl wa.heap.size wa).alloc (Nat.le_refl _) (.cells (recC y Y cy) 72)
        have HKB := Lib.hid (Blk.new wa 72 (recC y Y cy))
        have HKA2 := Lib.hid (HKA.out.below hbb HKA.out.lt)
        have HBB := Lib.hid (HBL.out.trans ((HBA.out.trans (hbb.mono HBA.out.size)).mono HBL.out.size))
        have HSX2 := Lib.hid (HSX.out.below (HBA.out.trans (hbb.mono HBA.out.size)))
        have HSY2 := Lib.hid (HSY.out.below (HBA.out.trans (hbb.mono HBA.out.size)))
        unfold recC at HKB HKA2 HBB HSX2 HSY2
        generalize wa.alloc (.cells #[.int .i64 y.kind, .string y.at_, .int .i64 y.mode, .int .i64 y.time, .int .i64 y.size, .slice Y y.chunks.length cy, .string y.target] 72) = wb at *
        clear r0 r1 r2 r3 r4 r5 r6 hbb HKA HBA HQ HBL HSX HSY
        obtain ⟨⟨a0, a1, a2, a3, a4, a5, a6⟩, _⟩ := blk7' HKA2.out
        obtain ⟨⟨b0, b1, b2, b3, b4, b5, b6⟩, _⟩ := blk7' HKB.out
        by_cases e0 : x.kind = y.kind
        rotate_left
        · have d0 : (x.kind != y.kind) = true := by rw [int_neb, decide_eq_false e0]; rfl
          have HX := Lib.hid (show decide (la = lb) = false from decide_eq_false (HNE.out (fun h => e0 (by rw [h]))))
          clear e0
          go_wp2
          go_ret
          exact ⟨ret_bool HX.out.symm, HBB.out⟩
        have d0 : (x.kind != y.kind) = false := by rw [int_neb, decide_eq_true e0]; rfl
        by_cases e1 : x.at_ = y.at_
        rotate_left
        · have d1 : (x.at_.toList == y.at_.toList) = false := by rw [txt_eqb, decide_eq_false e1]
          have HX := Lib.hid (show decide (la = lb) = false from decide_eq_false (HNE.out (fun h => e1 (by rw [h]))))
          clear e0 e1
          go_wp2
          go_ret
          exact ⟨ret_bool HX.out.symm, HBB.out⟩
        have d1 : (x.at_.toList == y.at_.toList) = true := by rw [txt_eqb, decide_eq_true e1]
        by_cases e2 : x.mode = y.mode
        rotate_left
        · have d2 : (x.mode != y.mode) = true := by rw [int_neb, decide_eq_false e2]; rfl
          have HX := Lib.hid (show decide (la = lb) = false from decide_eq_false (HNE.out (fun h => e2 (by rw [h]))))
          clear e0 e1 e2
          go_wp2
          go_ret
          exact ⟨ret_bool HX.out.symm, HBB.out⟩
        have d2 : (x.mode != y.mode) = false := by rw [int_neb, decide_eq_true e2]; rfl
        by_cases e3 : x.time = y.time
        rotate_left
        · have d3 : (x.time != y.time) = true := by rw [int_neb, decide_eq_false e3]; rfl
          have HX := Lib.hid (show decide (la = lb) = false from decide_eq_false (HNE.out (fun h => e3 (by rw [h]))))
          clear e0 e1 e2 e3
          go_wp2
          go_ret
          exact ⟨ret_bool HX.out.symm, HBB.out⟩
        have d3 : (x.time != y.time) = false := by rw [int_neb, decide_eq_true e3]; rfl
        by_cases e4 : x.size = y.size
        rotate_left
        · have d4 : (x.size != y.size) = true := by rw [int_neb, decide_eq_false e4]; rfl
          have HX := Lib.hid (show decide (la = lb) = false from decide_eq_false (HNE.out (fun h => e4 (by rw [h]))))
          clear e0 e1 e2 e3 e4
          go_wp2
          go_ret
          exact ⟨ret_bool HX.out.symm, HBB.out⟩
        have d4 : (x.size != y.size) = false := by rw [int_neb, decide_eq_true e4]; rfl
        by_cases e5 : x.target = y.target
        rotate_left
        · have d5 : (x.target.toList == y.target.toList) = false := by rw [txt_eqb, decide_eq_false e5]
          have HX := Lib.hid (show decide (la = lb) = false from decide_eq_false (HNE.out (fun h => e5 (by rw [h]))))
          clear e0 e1 e2 e3 e4 e5
          go_wp2
          go_ret
          exact ⟨ret_bool HX.out.symm, HBB.out⟩
        have d5 : (x.target.toList == y.target.toList) = true := by rw [txt_eqb, decide_eq_true e5]
        by_cases e6 : x.chunks.length = y.chunks.length
        rotate_left
        · have d6 : ((x.chunks.length : Int) != (y.chunks.length : Int)) = true := by rw [len_neb, decide_eq_false e6]; rfl
          have HX := Lib.hid (show decide (la = lb) = false from decide_eq_false (HNE.out (fun h => e6 (by rw [h]))))
          clear e0 e1 e2 e3 e4 e5 e6
          go_wp2
          go_ret
          exact ⟨ret_bool HX.out.symm, HBB.out⟩
        have d6 : ((x.chunks.length : Int) != (y.chunks.length : Int)) = false := by rw [len_neb, decide_eq_true e6]; rfl
        have HE := Lib.hid (fun (e : x.chunks = y.chunks) => nr_ext e0 e1 e2 e3 e4 e5 e)
        have HCE := Lib.hid e6
        clear e0 e1 e2 e3 e4 e5 e6
        go_wp2
        go_loopw [8, 77] (fun _ i wi => ∃ j : Nat, i = .int .i64 j ∧ j ≤ x.chunks.length ∧ x.chunks.take j = y.chunks.take j ∧ Below wb.heap.size wb wi) (fun _ i _ => x.chunks.length - (intOf i).toNat)
        case atStart => exact ⟨0, rfl, Nat.zero_le _, by simp, Below.refl _ _⟩
        case round =>
          obtain ⟨j, rfl, hj, htj, hbi⟩ := hrel
          have HBI := Lib.hid hbi
          have HTJ := Lib.hid htj
          clear htj hbi a0 a1 a2 a3 a4 a5 a6 b0 b1 b2 b3 b4 b5 b6
          have hce := HCE.out
          have hclx := HCK.out
          by_cases hjl : j < x.chunks.length
          · have HJL := Lib.hid hjl
            have hjb : j < y.chunks.length := by omega
            obtain ⟨gx, ox, rfl, hgx, hxc⟩ := HSX2.out (by omega)
            obtain ⟨gy, oy, rfl, hgy, hyc⟩ := HSY2.out (by omega)
            have hx1 := (HBI.out.cell (p := ⟨gx, ox + j, none⟩) hgx).trans (hxc j x.chunks[j] (List.getElem?_eq_getElem hjl))
            have hy1 := (HBI.out.cell (p := ⟨gy, oy + j, none⟩) hgy).trans (hyc j y.chunks[j] (List.getElem?_eq_getElem hjb))
            have HNE2 := Lib.hid (ne_of_get (a := x.chunks) (b := y.chunks) hjl hjb)
            have HEQ2 := Lib.hid (take_eq_snoc HTJ.out hjl hjb)
            have k5 : wr.cell? ⟨wo.heap.size, 5, none⟩ = some (.slice (some ⟨gx, ox, none⟩) x.chunks.length cx) := (HKA2.out.below HBI.out HKA2.out.lt).cell 5
            have k6 : wr.cell? ⟨wa.heap.size, 5, none⟩ = some (.slice (some ⟨gy, oy, none⟩) y.chunks.length cy) := (HKB.out.below HBI.out HKB.out.lt).cell 5
            clear hxc hyc
            generalize x.chunks[j] = u at *
            generalize y.chunks[j] = v at *
            have hj0 : (0 : Int) ≤ (j : Int) := by omega
            have hjx : (j : Int) < (x.chunks.length : Int) := by omega
            have hjy : (j : Int) < (y.chunks.length : Int) := by omega
            have hj3 : ((j : Int)).toNat = j := by omega
            by_cases huv : u = v
            · have dd : (u.toList == v.toList) = true := by rw [txt_eqb, decide_eq_true huv]
              have HS := Lib.hid (HEQ2.out huv)
              clear huv
              go_wp2
              go_quiet (fail)
              go_wp2
              go_roundw
              case rel => exact ⟨j + 1, by go_num, HJL.out, HS.out, Go.below_drewN HBI.out nq⟩
              case measure => have := HJL.out; simp [intOf]; omega
            · have dd : (u.toList == v.toList) = false := by rw [txt_eqb, decide_eq_false huv]
              have HX := Lib.hid (show decide (la = lb) = false from decide_eq_false (HNE.out fun h => HNE2.out huv (by rw [h])))
              have HB9 := Lib.hid (HBB.out.trans (HBI.out.mono HBB.out.size))
              clear huv
              go_wp2
              go_quiet (fail)
              go_wp2
              go_ret
              exact ⟨ret_bool HX.out.symm, Go.below_drewN HB9.out nq⟩
          · obtain rfl : j = x.chunks.length := by omega
            have HXE := Lib.hid (HEQ.out (HE.out (by
              have := HTJ.out
              rw [List.take_length, List.take_of_length_le (by omega)] at this
              exact this)))
            have HB9 := Lib.hid (HBB.out.trans (HBI.out.mono HBB.out.size))
            go_wp2
            go_roundw
            case rel => exact ⟨k + 1, by go_num, by omega, HXE.out, HB9.out⟩
            case measure => simp [intOf]; omega
      · obtain rfl : k = la.length := by omega
        have HX := Lib.hid (show decide (la = lb) = true from decide_eq_true (by
          have := HTK.out
          rw [List.take_length, List.take_of_length_le (by have := HLE.out; omega)] at this
          exact this))
        go_wp2
        go_ret
        exact ⟨ret_bool HX.out.symm, HBL.out⟩
  · have hq : ((la.length : Int) != (lb.length : Int)) = true := by rw [len_neb, decide_eq_false hlen]; rfl
    have HX := Lib.hid (show decide (la = lb) = false from decide_eq_false fun e => hlen (by rw [e]))
    clear hlen
    go_enter Tryd.func25, Tryd.ntmps25
    go_wp2
    go_ret
    exact ⟨ret_bool HX.out.symm, Below.refl _ _⟩
end Go.Proofs.YtaoejgnfoecpfaaDoor
namespace Go.Proofs.YtaoejgnfoecpfaaDoor
set_option linter.unusedVariables false
set_option linter.unusedSimpArgs false
set_option linter.unusedSectionVars false
open Go.RowKit

theorem own_formT {w : World} {B n k : Nat} {t : TypeId} {v : Value} {xs : List Value} (h : w.ownsRow B t k v n xs) : ∃ A c, v = .slice A n c ∧ n ≤ c ∧ (A = none → c = 0) := by
  rcases h.2 with ⟨hv, hn⟩ | ⟨g, cap, cur, hv, _, _, hc, _⟩
  · exact ⟨none, 0, by rw [hv, hn], by omega, fun _ => rfl⟩
  · exact ⟨some ⟨g, 0, none⟩, cap, hv, hc, fun h => by cases h⟩
set_option maxRecDepth 100000 in
/-- append of a row of texts, at a step of a region that draws -/
theorem step_appStrs {w : World} {ops : Array Oper} {o : Oper} {a : Act} {K : Act → World → Prop} {Q : Exit → Act → World → Prop} {E : Prop} (hgd : o.guard = none) (s x : Operand)
    (ho : o.op = .call { callee := .builtin .append, args := #[s, x], argTypes := #[50, 50] })
    (base : Nat) (v : Value) (n : Nat) (xs : List Value) (hs : a.eval s = v) (hown : w.ownsRow base 9 1 v n xs)
    (A : Option Addr) (c : Nat) (l : List ByteArray) (hx : a.eval x = .slice A l.length c) (hst : StrsA w w.heap.size A l) (hn : A = none → c = 0)
    (hbytes : (n + l.length) * 16 ≤ 140737488355328) (hbase : base ≤ w.heap.size)
    (h : ∀ A' c' w', w'.ownsRow base 9 1 (.slice A' (n + l.length) c') (n + l.length) (xs ++ strsV l) → w.grownBy w' v.ownBlock → (A' = none → c' = 0) → K (a.put o.dst (.slice A' (n + l.length) c')) w') :
    if Region.wanted o (yielded ops a.tmps) = true then Oper.wp Tryd.prog o a w K Q else E := by
  have hw : Region.wanted o (yielded ops a.tmps) = true := by simp [Region.wanted, hgd]
  rw [if_pos hw]
  obtain ⟨i0, hi, hz0, hz1, hz2⟩ := info_parts infoS
  cases A with
  | none =>
    obtain rfl := hn rfl
    have hl : l = [] := by
      cases l with
      | nil => rfl
      | cons y r =>
        obtain ⟨b, o, e, _⟩ := hst (by simp)
        cases e
    subst hl
    obtain ⟨A', c', rfl, hc, hnn⟩ := own_formT hown
    have hrun := run_append_owned_none (P := Tryd.prog) (w := w) base 50 o.type 9 i0 1 Tryd.underlying50 hi _ n xs hown
    have hK := h A' c' w (by simpa [strsV] using hown) ⟨rfl, rfl, rfl, Nat.le_refl _, fun _ _ _ => rfl⟩ hnn
    unfold Oper.wp
    simp only [List.length_nil, Nat.add_zero] at hK
    simp [execOp, ho, resolve, invoke, builtin, hs, hx, hrun, Result.andThen]
    exact hK
  | some ad =>
    obtain ⟨v', w', hr, hown', hg, _⟩ := run_append_own_at (P := Tryd.prog) (w := w) base 50 o.type 9 i0 _ 1 16 Tryd.underlying50 hi hz0 hz1 hz2 rfl (by decide) v n xs hown ad l.length c (strsV l) (by simp [strsV]) (by
      intro j u hj
      have hjl : j < l.length := by
        have := (List.getElem?_eq_some_iff.1 hj).1
        simpa [strsV] using this
      obtain ⟨b, o, h1, h2, h3⟩ := hst (by omega)
      injection h1 with h1
      subst h1
      have hadd : (⟨b, o, none⟩ : Addr).add j = ⟨b, o + j, none⟩ := by unfold Addr.add; split <;> simp_all
      rw [hadd]
      simp only [strsV, List.getElem?_map, List.getElem?_eq_getElem hjl, Option.map_some, Option.some.injEq] at hj
      subst hj
      exact h3 j l[j] (List.getElem?_eq_getElem hjl)) (by
      intro u hu
      simp only [strsV, List.mem_map] at hu
      obtain ⟨x, _, rfl⟩ := hu
      rfl) (by unfold maxLen; omega) hbytes hbase
    obtain ⟨A', c', rfl, hc, hnn⟩ := own_formT hown'
    have hK := h A' c' w' hown' hg hnn
    unfold Oper.wp execOp
    simp only [ho, resolve, invoke, builtin, Sem.run_bind, Sem.run_pure, Result.andThen_ok, List.map_toArray, List.map_cons, List.map_nil, hs, hx, hr]
    exact hK
theorem Blk.new2 (w : World) (o : Obj) (t : TypeId) (cs : Array Value) : Blk ((w.alloc o).alloc (.cells cs t)) (w.heap.size + 1) t cs := by
  have := Blk.new (w.alloc o) t cs
  rwa [show (w.alloc o).heap.size = w.heap.size + 1 by simp] at this
theorem own_empty {w : World} {B : Nat} {t : TypeId} (h : B ≤ w.heap.size) : (w.alloc (.cells #[] t)).ownsRow B t 1 (.slice (some ⟨w.heap.size, 0, none⟩) 0 0) 0 [] :=
  ⟨rfl, .inr ⟨w.heap.size, 0, #[], rfl, h, heap_alloc_new w _, Nat.le_refl _, Nat.zero_le _, rfl, rfl⟩⟩
/-- the record that is told of a node -/
def tell (x : Nr) : Nr := if x.kind = 1 then ⟨1, x.at_, x.mode, x.time, 0, [], noB⟩ else if x.kind = 2 then ⟨2, x.at_, x.mode, x.time, x.size, x.chunks, noB⟩ else if x.kind = 3 then ⟨3, x.at_, x.mode, x.time, 0, [], x.target⟩ else ⟨0, noB, 0, 0, 0, [], noB⟩
theorem tell_pure {x : Nr} (h : kindOk x = true) (hp : PureN x) : tell x = x := by
  obtain ⟨kind, a, m, t, z, ch, tg⟩ := x
  unfold kindOk at h
  obtain ⟨h1, h2⟩ := hp
  simp only [Bool.and_eq_true, decide_eq_true_eq] at h h1 h2
  unfold tell
  have : kind = 1 ∨ kind = 2 ∨ kind = 3 := by omega
  rcases this with rfl | rfl | rfl
  · obtain ⟨rfl, rfl⟩ := h1 (by decide)
    rw [h2 (by decide)]
    rfl
  · rw [h2 (by decide)]
    rfl
  · obtain ⟨rfl, rfl⟩ := h1 (by decide)
    rfl
theorem far7 {W : World} {b g : Nat} {t : TypeId} {cs : Array Value} (h : Blk W b t cs) (hb : b ≠ g) (v0 v1 v2 v3 v4 v5 v6 : Value) : Blk (((((((W.setCell ⟨g, 0, none⟩ v0).setCell ⟨g, 1, none⟩ v1).setCell ⟨g, 2, none⟩ v2).setCell ⟨g, 3, none⟩ v3).setCell ⟨g, 4, none⟩ v4).setCell ⟨g, 5, none⟩ v5).setCell ⟨g, 6, none⟩ v6) b t cs := ((((((h.far hb v0).far hb v1).far hb v2).far hb v3).far hb v4).far hb v5).far hb v6
theorem heap7 {W : World} {b g : Nat} (hb : b ≠ g) (v0 v1 v2 v3 v4 v5 v6 : Value) : (((((((W.setCell ⟨g, 0, none⟩ v0).setCell ⟨g, 1, none⟩ v1).setCell ⟨g, 2, none⟩ v2).setCell ⟨g, 3, none⟩ v3).setCell ⟨g, 4, none⟩ v4).setCell ⟨g, 5, none⟩ v5).setCell ⟨g, 6, none⟩ v6).heap[b]? = W.heap[b]? := by
  rw [Below.heap_setCell _ ⟨g, 6, none⟩ _ b hb, Below.heap_setCell _ ⟨g, 5, none⟩ _ b hb, Below.heap_setCell _ ⟨g, 4, none⟩ _ b hb, Below.heap_setCell _ ⟨g, 3, none⟩ _ b hb, Below.heap_setCell _ ⟨g, 2, none⟩ _ b hb, Below.heap_setCell _ ⟨g, 1, none⟩ _ b hb, Below.heap_setCell _ ⟨g, 0, none⟩ _ b hb]
theorem below_set7 {B g : Nat} {w0 w : World} (h : Below B w0 w) (hg : B ≤ g) (v0 v1 v2 v3 v4 v5 v6 : Value) : Below B w0 (((((((w.setCell ⟨g, 0, none⟩ v0).setCell ⟨g, 1, none⟩ v1).setCell ⟨g, 2, none⟩ v2).setCell ⟨g, 3, none⟩ v3).setCell ⟨g, 4, none⟩ v4).setCell ⟨g, 5, none⟩ v5).setCell ⟨g, 6, none⟩ v6) :=
  ((((((h.setCell (p := ⟨g, 0, none⟩) hg v0).setCell (p := ⟨g, 1, none⟩) hg v1).setCell (p := ⟨g, 2, none⟩) hg v2).setCell (p := ⟨g, 3, none⟩) hg v3).setCell (p := ⟨g, 4, none⟩) hg v4).setCell (p := ⟨g, 5, none⟩) hg v5).setCell (p := ⟨g, 6, none⟩) hg v6
theorem pla5 {W : World} {b : Nat} {a : ByteArray} {m t z : Int} {A : Option Addr} {n c : Nat} (h : Blk W b 75 #[.string a, .int .i64 m, .int .i64 t, .int .i64 z, .slice A n c]) : W.cell? ⟨b, 0, none⟩ = some (.string a) ∧ W.cell? ⟨b, 1, none⟩ = some (.int .i64 m) ∧ W.cell? ⟨b, 2, none⟩ = some (.int .i64 t) ∧ W.cell? ⟨b, 3, none⟩ = some (.int .i64 z) ∧ W.cell? ⟨b, 4, none⟩ = some (.slice A n c) := ⟨h.cell 0, h.cell 1, h.cell 2, h.cell 3, h.cell 4⟩
def ToldPost (x : Nr) (w : World) (e : Ending) (w' : World) : Prop :=
  ∃ A c, e = .returned (.agg (recC (tell x) A c)) ∧ StrsA w' w'.heap.size A (tell x).chunks ∧ (∀ k o, A = some ⟨k, o, none⟩ → w.heap.size ≤ k) ∧ (A = none → c = 0) ∧ Below w.heap.size w w'
set_option maxRecDepth 100000 in
set_option maxHeartbeats 3200000 in
theorem told_any (x : Nr) (v : Value) (w : World) (h : NodeIs w v x) (hc : x.chunks.length ≤ 1000000) : Calls Tryd.prog 44 #[v] w (ToldPost x w) := by
  have t0 := taFF
  have t1 := taPP
  have t2 := taSS
  have t3 := taPF
  have t4 := taSF
  have t5 := taQF
  have t6 := taNF
  have t7 := taFP
  have t8 := taSP
  have t9 := taQP
  have t10 := taNP
  have t11 := taFS
  have t12 := taPS
  have t13 := taQS
  have t14 := taNS
  rcases h with ⟨h, rfl⟩ | ⟨h, A, c, rfl, hs, hn⟩ | ⟨h, rfl⟩ | ⟨h, rfl | ⟨g, rfl⟩⟩
  · have hk : tell x = ⟨1, x.at_, x.mode, x.time, 0, [], noB⟩ := by unfold tell; rw [if_pos h]
    unfold folV ToldPost
    rw [hk]
    clear h hk
    go_enter Tryd.func44, Tryd.ntmps44
    go_wp2
    refine bodyPost_ret (v := .agg #[.int .i64 1, .string x.at_, .int .i64 x.mode, .int .i64 x.time, .int .i64 0, .slice none 0 0, .string ⟨#[]⟩]) (by simp [results, Tryd.results44, go_sem]) rfl ?_
    exact ⟨none, 0, rfl, fun h => absurd h (by simp), (fun k o e => by cases e), fun _ => rfl, ((Below.refl _ w).alloc (Nat.le_refl _) _).alloc (by simp) _⟩
  · have hk : tell x = ⟨2, x.at_, x.mode, x.time, x.size, x.chunks, noB⟩ := by unfold tell; rw [if_neg (by omega), if_pos h]
    unfold plaV ToldPost
    rw [hk]
    clear h hk
    go_enter Tryd.func44, Tryd.ntmps44
    have hh := ((Below.refl w.heap.size w).alloc (Nat.le_refl _) (.cells #[.int .i64 0, .string ⟨#[]⟩, .int .i64 0, .int .i64 0, .int .i64 0, .slice none 0 0, .string ⟨#[]⟩] 72)).alloc (by simp) (.cells #[.string x.at_, .int .i64 x.mode, .int .i64 x.time, .int .i64 x.size, .slice A x.chunks.length c] 75)
    have HK1 := Lib.hid (Blk.new2 w (.cells #[.int .i64 0, .string ⟨#[]⟩, .int .i64 0, .int .i64 0, .int .i64 0, .slice none 0 0, .string ⟨#[]⟩] 72) 75 #[.string x.at_, .int .i64 x.mode, .int .i64 x.time, .int .i64 x.size, .slice A x.chunks.length c])
    have HK0 := Lib.hid ((Blk.new w 72 #[.int .i64 0, .string ⟨#[]⟩, .int .i64 0, .int .i64 0, .int .i64 0, .slice none 0 0, .string ⟨#[]⟩]).alloc (.cells #[.string x.at_, .int .i64 x.mode, .int .i64 x.time, .int .i64 x.size, .slice A x.chunks.length c] 75))
    have HS := Lib.hid (hs.below hh)
    have HH := Lib.hid hh
    clear hs hh
    go_wp2
    generalize (w.alloc (.cells #[.int .i64 0, .string ⟨#[]⟩, .int .i64 0, .int .i64 0, .int .i64 0, .slice none 0 0, .string ⟨#[]⟩] 72)).alloc (.cells #[.string x.at_, .int .i64 x.mode, .int .i64 x.time, .int .i64 x.size, .slice A x.chunks.length c] 75) = wp at *
    have HZ := Lib.hid (show w.heap.size + 1 < wp.heap.size from HK1.out.lt)
    go_region_held3 (fun W => W.cell? ⟨w.heap.size + 1, 0, none⟩ = some (.string x.at_) ∧ W.cell? ⟨w.heap.size + 1, 1, none⟩ = some (.int .i64 x.mode) ∧ W.cell? ⟨w.heap.size + 1, 2, none⟩ = some (.int .i64 x.time) ∧ W.cell? ⟨w.heap.size + 1, 3, none⟩ = some (.int .i64 x.size) ∧ W.cell? ⟨w.heap.size + 1, 4, none⟩ = some (.slice A x.chunks.length c))
      (first | with_reducible exact hk5s | with_reducible exact pla5 HK1.out | with_reducible exact pla5 (Blk.drew HK1.out) | with_reducible exact pla5 (Blk.alloc HK1.out _) | with_reducible exact pla5 (Blk.alloc (Blk.drew HK1.out) _) | with_reducible exact pla5 (Blk.drew (Blk.alloc HK1.out _)) | exact pla5 (far7 hk5 (by omega) _ _ _ _ _ _ _))
      (first
        | (refine step_appStrs (by rfl) _ _ (by rfl) (w.heap.size + 1) _ 0 [] (by rfl) ((own_empty (by have := HZ.out; omega)).drew) A c x.chunks (by rfl) (HS.out.below (((Below.refl wp.heap.size wp).alloc (Nat.le_refl _) _).drew)) hn (by omega) (by have := HZ.out; simp; omega) ?_; intro A' c' w5 hown5 hg5 hn5; have hk5 := (Blk.drew (Blk.alloc HK1.out (.cells #[] 9))).grown hg5 (by have := HZ.out; simp [Value.ownBlock]; omega); have hk5s := pla5 hk5; have hz5 := (Blk.drew (Blk.alloc HK0.out (.cells #[] 9))).grown hg5 (by have := HZ.out; simp [Value.ownBlock]; omega); have hl5 : w.heap.size < w5.heap.size := hz5.lt; obtain ⟨⟨p0, p1, p2, p3, p4, p5, p6⟩, ⟨q0, q1, q2, q3, q4, q5, q6⟩⟩ := blk7' hz5))
    rw [Nat.zero_add, List.nil_append] at hown5
    have hst5 := (own_strs hown5).1
    have hlt5 := hown5.lt
    have hb5 := below_set7 (((HH.out.alloc HH.out.size (.cells #[] 9)).drew).grown hg5 (by have := HH.out.size; simp; omega) (fun k hk => by have := HZ.out; simp only [Value.ownBlock, Option.some.injEq] at hk; omega)) (Nat.le_refl w.heap.size)
    have hst6 := fun v0 v1 v2 v3 v4 v5 v6 => StrsA.keep (w' := (((((((w5.setCell ⟨w.heap.size, 0, none⟩ v0).setCell ⟨w.heap.size, 1, none⟩ v1).setCell ⟨w.heap.size, 2, none⟩ v2).setCell ⟨w.heap.size, 3, none⟩ v3).setCell ⟨w.heap.size, 4, none⟩ v4).setCell ⟨w.heap.size, 5, none⟩ v5).setCell ⟨w.heap.size, 6, none⟩ v6)) hst5 (by simp) (fun _ g o e _ => heap7 (by subst e; have := (hlt5 g rfl).1; omega) v0 v1 v2 v3 v4 v5 v6)
    go_wp2
    refine bodyPost_ret (v := .agg #[.int .i64 2, .string x.at_, .int .i64 x.mode, .int .i64 x.time, .int .i64 x.size, .slice A' x.chunks.length c', .string ⟨#[]⟩]) (by simp [results, Tryd.results44, go_sem, p0, p1, p2, p3, p4, p5, p6]) rfl ?_
    exact ⟨A', c', rfl, hst6 _ _ _ _ _ _ _, (fun k o e => by subst e; have := (hlt5 k rfl).1; omega), hn5, hb5 _ _ _ _ _ _ _⟩
  · have hk : tell x = ⟨3, x.at_, x.mode, x.time, 0, [], x.target⟩ := by unfold tell; rw [if_neg (by omega), if_neg (by omega), if_pos h]
    unfold symV ToldPost
    rw [hk]
    clear h hk
    go_enter Tryd.func44, Tryd.ntmps44
    go_wp2
    refine bodyPost_ret (v := .agg #[.int .i64 3, .string x.at_, .int .i64 x.mode, .int .i64 x.time, .int .i64 0, .slice none 0 0, .string x.target]) (by simp [results, Tryd.results44, go_sem]) rfl ?_
    exact ⟨none, 0, rfl, fun h => absurd h (by simp), (fun k o e => by cases e), fun _ => rfl, ((Below.refl _ w).alloc (Nat.le_refl _) _).alloc (by simp) _⟩
  all_goals
    have hk : tell x = ⟨0, noB, 0, 0, 0, [], noB⟩ := by
      unfold kindOk at h
      simp only [Bool.and_eq_false_iff, decide_eq_false_iff_not] at h
      unfold tell
      rw [if_neg (by omega), if_neg (by omega), if_neg (by omega)]
    unfold ToldPost
    rw [hk]
    clear h hk
    go_enter Tryd.func44, Tryd.ntmps44
    go_wp2
    refine bodyPost_ret (v := .agg #[.int .i64 0, .string ⟨#[]⟩, .int .i64 0, .int .i64 0, .int .i64 0, .slice none 0 0, .string ⟨#[]⟩]) (by simp [results, Tryd.results44, go_sem]) rfl ?_
    exact ⟨none, 0, rfl, fun h => absurd h (by simp), (fun k o e => by cases e), fun _ => rfl, (Below.refl _ w).alloc (Nat.le_refl _) _⟩
end Go.Proofs.YtaoejgnfoecpfaaDoor
namespace Go.Proofs.YtaoejgnfoecpfaaDoor
set_option linter.unusedVariables false
set_option linter.unusedSimpArgs false
set_option linter.unusedSectionVars false
open Go.RowKit

theorem own_emptyN {w : World} {B k : Nat} {t : TypeId} (h : B ≤ w.heap.size) : (w.alloc (.cells #[] t)).ownsRow B t k (.slice (some ⟨w.heap.size, 0, none⟩) 0 0) 0 [] :=
  ⟨by simp, .inr ⟨w.heap.size, 0, #[], rfl, h, heap_alloc_new w _, Nat.le_refl _, Nat.zero_le _, by simp, by simp⟩⟩
def ListPost (l : List Nr) (w : World) (e : Ending) (w' : World) : Prop :=
  ∃ A c, e = .returned (.slice A l.length c) ∧ RecsA w' A (l.map tell) ∧ l.length ≤ c ∧ Below w.heap.size w w'
set_option maxRecDepth 100000 in
set_option maxHeartbeats 3200000 in
theorem list_any (l : List Nr) (A : Option Addr) (c : Nat) (w : World) (h : NodesA w A l) (hc : ∀ x ∈ l, x.chunks.length ≤ 1000000) (hl : l.length ≤ 1000000) : Calls Tryd.prog 26 #[.slice A l.length c] w (ListPost l w) := by
  have HN := Lib.hid fun W (hb : Below w.heap.size w W) => h.below hb
  have HC := Lib.hid hc
  clear h hc
  go_enter Tryd.func26, Tryd.ntmps26
  go_wp2
  have hb0 := (Below.refl w.heap.size w).alloc (Nat.le_refl _) (.cells #[] 72)
  go_loopw [3, 5, 9] (fun ov nv i wr => ∃ (rs : List (Nr × Option Addr × Nat)) (B : Option Addr) (d : Nat) (u : Value), ov = .slice B rs.length d ∧ nv = u ∧ i = .int .i64 (rs.length : Nat) ∧ rs.length ≤ l.length ∧ rs.map (·.1) = (l.take rs.length).map tell ∧ rs.length ≤ d ∧ wr.ownsRow w.heap.size 72 7 (.slice B rs.length d) rs.length (recsC rs) ∧ RecsV wr (fun k => (Value.slice B rs.length d).ownBlock ≠ some k) rs ∧ Below w.heap.size w wr) (fun _ _ i _ => l.length - (intOf i).toNat)
  case atStart => exact ⟨[], some ⟨w.heap.size, 0, none⟩, 0, _, rfl, rfl, rfl, Nat.zero_le _, rfl, Nat.le_refl _, own_emptyN (Nat.le_refl _), fun r hr => absurd hr (by simp), hb0⟩
  case round =>
    obtain ⟨rs, B, d, u, rfl, rfl, rfl, hk, hrs, hcap, how, hrv, hbel⟩ := hrel
    have HO := Lib.hid how
    have HV := Lib.hid hrv
    have HB := Lib.hid hbel
    have HR := Lib.hid hrs
    clear how hrv hrs hb0
    by_cases hkl : rs.length < l.length
    · obtain ⟨g, o, rfl, hg, hcc⟩ := HN.out w (Below.refl _ _) (by omega)
      obtain ⟨u, hcu0, hiu⟩ := hcc rs.length l[rs.length] (List.getElem?_eq_getElem hkl)
      have hcu := (hbel.cell (p := ⟨g, o + rs.length, none⟩) hg).trans hcu0
      have HT := Lib.hid (told_any l[rs.length] u wr (hiu.below hbel) (HC.out _ (List.getElem_mem hkl)))
      have HR2 := Lib.hid (show (l.take (rs.length + 1)).map tell = (l.take rs.length).map tell ++ [tell l[rs.length]] by rw [List.take_succ_eq_append_getElem hkl, List.map_append]; rfl)
      clear hcc hcu0 hiu hbel
      generalize l[rs.length] = x at *
      have hk0 : (0 : Int) ≤ (rs.length : Int) := by omega
      have hki : (rs.length : Int) < (l.length : Int) := by omega
      have hk3 : ((rs.length : Int)).toNat = rs.length := by omega
      go_wp2_with fail
      refine HT.out.mono ?_
      rintro e w1 ⟨A1, c1, rfl, hst1, hnw1, hn1, hb1⟩
      have HO2 := Lib.hid (own_atN HO.out (w' := w1) fun i hi => hb1.block i (HO.out.lt i hi).2)
      have HV2 := Lib.hid (HV.out.keep (Q := fun k => (Value.slice B rs.length d).ownBlock ≠ some k) hb1.size fun k hk hl => ⟨hb1.block k hl, hk⟩)
      have HB2 := Lib.hid (HB.out.trans (hb1.mono HB.out.size))
      have HST := Lib.hid hst1
      have HNW := Lib.hid (show ∀ k o, A1 = some ⟨k, o, none⟩ → (Value.slice B rs.length d).ownBlock ≠ some k from fun k o e e2 => by have h1 := (HO.out.lt k e2).2; have h2 := hnw1 k o e; omega)
      clear hst1 hnw1 hb1
      generalize tell x = y at *
      unfold recC
      go_wp2_with (at_builtin; refine wpList_app1 rfl _ _ 22 rfl w.heap.size 72 Tryd.underlying22 infoRc rfl (by decide) _ _ _ rfl HO2.out _ rfl rfl (by simp [Value.oneCell']) (by omega) (by omega) HB2.out.size ?_)
      intro g5 cap5 w5 ho5 hg5 hb5 hl5
      have hcp : rs.length + 1 ≤ cap5 := by
        rcases ho5.2 with ⟨hv, _⟩ | ⟨g, cap, cur, hv, _, _, hc, _⟩
        · cases hv
        · injection hv with _ _ hv
          omega
      have HO5 := Lib.hid (show w5.ownsRow w.heap.size 72 7 (.slice (some ⟨g5, 0, none⟩) (rs ++ [(y, A1, c1)]).length cap5) (rs ++ [(y, A1, c1)]).length (recsC (rs ++ [(y, A1, c1)])) by
        rw [recsC_snoc]
        have := ho5
        simpa [recC] using this)
      have HB5 := Lib.hid (HB2.out.grown hg5 HB2.out.size fun j hj => (HO2.out.lt j hj).1)
      have HV5 := Lib.hid (show RecsV w5 (fun k => (Value.slice (some ⟨g5, 0, none⟩) (rs ++ [(y, A1, c1)]).length cap5).ownBlock ≠ some k) (rs ++ [(y, A1, c1)]) from by
        have h1 := HV2.out.snoc (r := (y, A1, c1)) HST.out (fun _ k o e => HNW.out k o e)
        refine h1.keep hg5.size fun k hk hl => ⟨hg5.block k hl (fun e => hk e.symm), fun e => ?_⟩
        simp only [Value.ownBlock, Option.some.injEq] at e
        subst e
        rcases hl5 with h | h
        · exact hk h
        · omega)
      clear ho5 hg5 hb5 hl5
      go_wp2
      go_roundw
      case rel => exact ⟨rs ++ [(y, A1, c1)], some ⟨g5, 0, none⟩, cap5, _, by simp, rfl, by first | rfl | (simp; done) | go_num, by simp; omega, by rw [List.length_append, List.length_singleton, HR2.out, List.map_append, HR.out]; rfl, by simpa using hcp, HO5.out, HV5.out, HB5.out⟩
      case measure => simp [intOf]; omega
    · have hke : rs.length = l.length := by omega
      have HX := Lib.hid (show RecsA wr B (l.map tell) by
        have h1 := HV.out.row HO.out
        rw [HR.out, hke, List.take_length] at h1
        exact h1)
      clear hkl
      go_wp2
      go_ret
      exact ⟨B, d, by rw [← hke]; rfl, HX.out, by omega, HB.out⟩
end Go.Proofs.YtaoejgnfoecpfaaDoor
namespace Go.Proofs.YtaoejgnfoecpfaaDoor
set_option linter.unusedVariables false
set_option linter.unusedSimpArgs false
set_option linter.unusedSectionVars false
open Go.RowKit

def n12 : Nr := ⟨1, ⟨#[97]⟩, 5, 9, 0, [], noB⟩
theorem chk12 : chkN [n12] = 0 := by decide +kernel
theorem enc12 : ((encS [n12]).toList == [1, 1, 1, 97, 5, 9]) = true := by decide +kernel
theorem dec12 : (decN ⟨#[0]⟩).1.length = 0 ∧ (decN ⟨#[0]⟩).2 = 0 := by decide +kernel
theorem sfew_any (s : ByteArray) (n : Nat) (w : World) : Calls Tryd.prog 22 #[.string s, .int .i64 n] w fun e w' => e = .returned (.string (s.extract 0 n)) ∧ w = w' := by
  by_cases h : n < s.size
  · have h1 : (n : Int) < (s.size : Int) := by omega
    go_enter Tryd.func22, Tryd.ntmps22
    go_wp2
    go_ret
    exact ⟨rfl, rfl⟩
  · have h1 : ¬ (n : Int) < (s.size : Int) := by omega
    have HE := Lib.hid (show s.extract 0 n = s by
      apply ba_inj
      rw [ext_take, List.take_of_length_le (by rw [ba_len]; omega)])
    go_enter Tryd.func22, Tryd.ntmps22
    go_wp2
    go_ret
    exact ⟨by rw [HE.out]; rfl, rfl⟩
theorem drop12 (s : ByteArray) (w : World) (he : Env w) (hs : s.size ≤ 1099511627776) (hk : (decN s).1.length = 0 ∧ (decN s).2 = 0) : Calls Tryd.prog 19 #[.string s] w fun e w' => ∃ A c, e = .returned (.tuple #[.slice A 0 c, .int .i64 0]) ∧ Below w.heap.size w w' :=
  (ndecode_any s w he hs).mono fun e w' ⟨A, c, h1, _, h3⟩ => ⟨A, c, by rw [h1, hk.1, hk.2]; rfl, h3⟩
set_option maxRecDepth 100000 in
set_option maxHeartbeats 800000 in
theorem awake12_any (w : World) (he : Env w) : Calls Tryd.prog 24 #[] w fun e w' => e = .returned (.bool true) ∧ Below w.heap.size w w' := by
  have hb0 : Below w.heap.size w (w.alloc (.cells #[folV ⟨#[97]⟩ 5 9] 35)) := (Below.refl _ w).alloc (Nat.le_refl _) _
  have HE := Lib.hid fun W (hb : Below w.heap.size w W) => he.below hb
  have HB0 := Lib.hid hb0
  have hst : NodesA (w.alloc (.cells #[folV ⟨#[97]⟩ 5 9] 35)) (some ⟨w.heap.size, 0, none⟩) [n12] := fun _ => ⟨w.heap.size, 0, rfl, by simp, fun j u hj => by
    have hc := (Blk.new w 35 #[folV ⟨#[97]⟩ 5 9]).cell j
    rw [Nat.zero_add, hc]
    match j, hj with
    | 0, hj => 
      simp at hj
      subst hj
      exact ⟨_, rfl, .inl ⟨rfl, rfl⟩⟩
    | j + 1, hj => simp at hj⟩
  have h1 := nencode_any [n12] (some ⟨w.heap.size, 0, none⟩) 1 _ (he.below hb0) hst (fun x hx => by
    obtain rfl := List.mem_singleton.1 hx
    exact ⟨by decide, by decide, by decide, by decide, by decide, by decide, by decide⟩) (by decide)
  rw [chk12] at h1
  rw [show [n12].length = 1 from rfl, show (((0 : Nat) : Nat) : Int) = 0 from rfl] at h1
  have e1 := enc12
  generalize encS [n12] = S at *
  have H1 := Lib.hid h1
  have H2 := Lib.hid fun W (h : Env W) => drop12 ⟨#[0]⟩ W h (by decide) dec12
  have H3 := Lib.hid fun W => kind_any (symV ⟨#[]⟩ 0 0 ⟨#[]⟩) ⟨3, ⟨#[]⟩, 0, 0, 0, [], ⟨#[]⟩⟩ W (.inr (.inr (.inl ⟨rfl, rfl⟩)))
  unfold folV at H1 HB0
  unfold symV at H3
  rw [show kindR ⟨3, ⟨#[]⟩, 0, 0, 0, [], ⟨#[]⟩⟩ = 3 from rfl] at H3
  clear h1 hst hb0 he
  go_enter Tryd.func24, Tryd.ntmps24
  go_wp2_with fail
  refine H1.out.mono ?_
  rintro e w1 ⟨rfl, hb1⟩
  have g1 := HB0.out.trans (hb1.mono HB0.out.size)
  go_wp2_with fail
  refine (H2.out w1 (HE.out _ g1)).mono ?_
  rintro e w2 ⟨A, c, rfl, hb2⟩
  have g2 := g1.trans (hb2.mono g1.size)
  go_wp2_with fail
  refine (H3.out _).mono ?_
  rintro e w3 ⟨rfl, rfl⟩
  go_wp2
  go_ret
  exact ⟨rfl, g2⟩
end Go.Proofs.YtaoejgnfoecpfaaDoor
namespace Go.Proofs.YtaoejgnfoecpfaaDoor
set_option linter.unusedVariables false
set_option linter.unusedSimpArgs false
set_option linter.unusedSectionVars false
open Go.RowKit

theorem blk_ptr {p : Value} {k : Nat} : ¬ NodeBlk (.iface 134 p) k := by
  rintro ⟨_, _, _, _, _, _, _, h, _⟩
  unfold plaV at h
  injection h with h1 h2
  exact absurd h1 (by decide)
def OfPost (x : Nr) (w : World) (e : Ending) (w' : World) : Prop :=
  ∃ v, e = .returned v ∧ NodeIs w' v x ∧ (∀ k, NodeBlk v k → w.heap.size ≤ k) ∧ Below w.heap.size w w' ∧ (x.kind = 4 → ∃ g, v = .iface 134 (.pointer (some ⟨g, 0, none⟩)) ∧ Blk w' g 26 #[.string x.at_, .int .i64 x.mode, .int .i64 x.time]) ∧ (kindOk x = false → x.kind ≠ 4 → v = .nilIface)
theorem rec5 {W : World} {b : Nat} {k : Int} {a tg : ByteArray} {m t z : Int} {A : Option Addr} {n c : Nat} (h : Blk W b 72 #[.int .i64 k, .string a, .int .i64 m, .int .i64 t, .int .i64 z, .slice A n c, .string tg]) : W.cell? ⟨b, 1, none⟩ = some (.string a) ∧ W.cell? ⟨b, 2, none⟩ = some (.int .i64 m) ∧ W.cell? ⟨b, 3, none⟩ = some (.int .i64 t) ∧ W.cell? ⟨b, 4, none⟩ = some (.int .i64 z) ∧ W.cell? ⟨b, 5, none⟩ = some (.slice A n c) := ⟨h.cell 1, h.cell 2, h.cell 3, h.cell 4, h.cell 5⟩
set_option maxRecDepth 100000 in
set_option maxHeartbeats 3200000 in
theorem of_any (x : Nr) (A : Option Addr) (c : Nat) (w : World) (hs : StrsA w w.heap.size A x.chunks) (hn : A = none → c = 0) (hc : x.chunks.length ≤ 1000000) : Calls Tryd.prog 41 #[.agg (recC x A c)] w (OfPost x w) := by
  obtain ⟨kind, a, m, t, z, ch, tg⟩ := x
  have hb1 := (Below.refl w.heap.size w).alloc (Nat.le_refl _) (.cells #[.int .i64 kind, .string a, .int .i64 m, .int .i64 t, .int .i64 z, .slice A ch.length c, .string tg] 72)
  have HB1 := Lib.hid hb1
  have HK1 := Lib.hid (Blk.new w 72 #[.int .i64 kind, .string a, .int .i64 m, .int .i64 t, .int .i64 z, .slice A ch.length c, .string tg])
  have HS1 := Lib.hid (hs.below hb1)
  clear hs hb1
  unfold recC
  by_cases k1 : kind = 1
  · subst k1
    go_enter Tryd.func41, Tryd.ntmps41
    go_wp2
    go_ret
    exact ⟨_, rfl, .inl ⟨rfl, rfl⟩, fun k h => absurd h blk_fol, HB1.out, fun h => absurd h (by simp), fun h => absurd h (by rw [kindOk_of (by simp only; omega)]; simp)⟩
  by_cases k2 : kind = 2
  · subst k2
    clear k1
    go_enter Tryd.func41, Tryd.ntmps41
    go_wp2
    generalize w.alloc (.cells #[.int .i64 2, .string a, .int .i64 m, .int .i64 t, .int .i64 z, .slice A ch.length c, .string tg] 72) = wp at *
    have HZ := Lib.hid (show w.heap.size < wp.heap.size from HK1.out.lt)
    go_region_held3 (fun W => W.cell? ⟨w.heap.size, 1, none⟩ = some (.string a) ∧ W.cell? ⟨w.heap.size, 2, none⟩ = some (.int .i64 m) ∧ W.cell? ⟨w.heap.size, 3, none⟩ = some (.int .i64 t) ∧ W.cell? ⟨w.heap.size, 4, none⟩ = some (.int .i64 z) ∧ W.cell? ⟨w.heap.size, 5, none⟩ = some (.slice A ch.length c))
      (first | with_reducible exact hk5s | with_reducible exact rec5 HK1.out | with_reducible exact rec5 (Blk.drew HK1.out) | with_reducible exact rec5 (Blk.alloc HK1.out _) | with_reducible exact rec5 (Blk.alloc (Blk.drew HK1.out) _) | with_reducible exact rec5 (Blk.drew (Blk.alloc HK1.out _)))
      (first
        | (refine step_appStrs (by rfl) _ _ (by rfl) (w.heap.size + 1) _ 0 [] (by rfl) ((own_empty (by have := HZ.out; omega)).drew) A c ch (by rfl) (HS1.out.below (((Below.refl wp.heap.size wp).alloc (Nat.le_refl _) _).drew)) hn (by omega) (by have := HZ.out; simp; omega) ?_; intro A' c' w5 hown5 hg5 hn5; have hk5 := (Blk.drew (Blk.alloc HK1.out (.cells #[] 9))).grown hg5 (by have := HZ.out; simp [Value.ownBlock]; omega); have hk5s := rec5 hk5))
    rw [Nat.zero_add, List.nil_append] at hown5
    have hst5 := (own_strs hown5).1
    have hlt5 := hown5.lt
    have hb5 := ((HB1.out.alloc HB1.out.size (.cells #[] 9)).drew).grown hg5 (by have := HB1.out.size; simp; omega) (fun k hk => by have := HZ.out; simp only [Value.ownBlock, Option.some.injEq] at hk; omega)
    go_wp2
    go_ret
    exact ⟨plaV a m t z A' ch.length c', by simp [plaV], .inr (.inl ⟨rfl, A', c', rfl, hst5, hn5⟩), fun k h => by
      obtain ⟨⟨o, e⟩, _⟩ := blk_pla h
      subst e
      have := (hlt5 k rfl).1
      omega, hb5, fun h => absurd h (by simp), fun h => absurd h (by rw [kindOk_of (by simp only; omega)]; simp)⟩
  by_cases k3 : kind = 3
  · subst k3
    clear k1 k2
    go_enter Tryd.func41, Tryd.ntmps41
    go_wp2
    go_ret
    exact ⟨_, rfl, .inr (.inr (.inl ⟨rfl, rfl⟩)), fun k h => absurd h blk_sym, HB1.out, fun h => absurd h (by simp), fun h => absurd h (by rw [kindOk_of (by simp only; omega)]; simp)⟩
  have hno : kindOk ⟨kind, a, m, t, z, ch, tg⟩ = false := by
    unfold kindOk
    simp only [Bool.and_eq_false_iff, decide_eq_false_iff_not]
    omega
  by_cases k4 : kind = 4
  · subst k4
    clear k1 k2 k3
    go_enter Tryd.func41, Tryd.ntmps41
    go_wp2
    go_ret
    exact ⟨_, rfl, .inr (.inr (.inr ⟨hno, .inr ⟨_, rfl⟩⟩)), fun k h => absurd h blk_ptr, HB1.out.alloc HB1.out.size _, fun _ => ⟨_, rfl, Blk.new2 w _ _ _⟩, fun _ h => absurd rfl h⟩
  · go_enter Tryd.func41, Tryd.ntmps41
    go_wp2
    go_ret
    exact ⟨_, rfl, .inr (.inr (.inr ⟨hno, .inl rfl⟩)), fun k h => absurd h blk_nil, HB1.out, fun h => absurd h k4, fun _ _ => rfl⟩
end Go.Proofs.YtaoejgnfoecpfaaDoor
