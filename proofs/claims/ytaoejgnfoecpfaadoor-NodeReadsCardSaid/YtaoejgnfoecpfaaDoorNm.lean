/- A tree's nodes: are two lists of records the same? -/
import Derived.Test.YtaoejgnfoecpfaaDoorNj
namespace Go.Proofs.YtaoejgnfoecpfaaDoor
open Go.RowKit

theorem txt_neb (a b : ByteArray) : (a.toList != b.toList) = !decide (a = b) := by
  have := txt_eqb a b
  rw [bne, this]
theorem int_neb (a b : Int) : (a != b) = !decide (a = b) := by rw [bne, int_eqb]
theorem len_neb (a b : Nat) : ((a : Int) != (b : Int)) = !decide (a = b) := by
  rw [int_neb]
  congr 1
  rw [Bool.eq_iff_iff, decide_eq_true_eq, decide_eq_true_eq]
  omega
theorem nr_ext {x y : Nr} (h0 : x.kind = y.kind) (h1 : x.at_ = y.at_) (h2 : x.mode = y.mode) (h3 : x.time = y.time) (h4 : x.size = y.size) (h5 : x.target = y.target) (h6 : x.chunks = y.chunks) : x = y := by
  cases x
  cases y
  simp_all
theorem take_eq_snoc {α : Type} {a b : List α} {k : Nat} (h : a.take k = b.take k) (ha : k < a.length) (hb : k < b.length) (he : a[k] = b[k]) : a.take (k + 1) = b.take (k + 1) := by
  rw [List.take_succ_eq_append_getElem ha, List.take_succ_eq_append_getElem hb, h, he]
theorem ne_of_get {α : Type} {a b : List α} {k : Nat} (ha : k < a.length) (hb : k < b.length) (he : a[k] ≠ b[k]) : a ≠ b := by
  rintro rfl
  exact he rfl
set_option maxRecDepth 100000 in
set_option maxHeartbeats 12800000 in
theorem nsame_any (la lb : List Nr) (A B : Option Addr) (ca cb : Nat) (w : World) (ha : RecsA w A la) (hb : RecsA w B lb) (hl : la.length ≤ 9223372036854775807) (hcl : ∀ x ∈ la, x.chunks.length ≤ 9223372036854775807) :
    Calls Tryd.prog 25 #[.slice A la.length ca, .slice B lb.length cb] w fun e w' => e = .returned (.bool (decide (la = lb))) ∧ Below w.heap.size w w' := by
  have HA := Lib.hid fun W (hb : Below w.heap.size w W) => ha.below hb
  have HB := Lib.hid fun W (h : Below w.heap.size w W) => hb.below h
  have HCL := Lib.hid hcl
  clear ha hb hcl
  by_cases hlen : la.length = lb.length
  · have hq : ((la.length : Int) != (lb.length : Int)) = false := by rw [len_neb, decide_eq_true hlen]; rfl
    have HLE := Lib.hid hlen
    clear hlen
    go_enter Tryd.func25, Tryd.ntmps25
    go_wp2
    go_loopw [16] (fun i wr => ∃ k : Nat, i = .int .i64 k ∧ k ≤ la.length ∧ la.take k = lb.take k ∧ Below w.heap.size w wr) (fun i _ => la.length - (intOf i).toNat)
    case atStart => exact ⟨0, rfl, Nat.zero_le _, by simp, Below.refl _ _⟩
    case round =>
      obtain ⟨k, rfl, hk, htk, hbel⟩ := hrel
      have HBL := Lib.hid hbel
      have HTK := Lib.hid htk
      clear htk
      by_cases hkl : k < la.length
      · have hkb : k < lb.length := by have := HLE.out; omega
        obtain ⟨g, o, rfl, hg, hcc⟩ := HA.out wr hbel (by omega)
        obtain ⟨X, cx, hcx, hsx⟩ := hcc k la[k] (List.getElem?_eq_getElem hkl)
        obtain ⟨g', o', rfl, hg', hcc'⟩ := HB.out wr hbel (by omega)
        obtain ⟨Y, cy, hcy, hsy⟩ := hcc' k lb[k] (List.getElem?_eq_getElem hkb)
        have HCK := Lib.hid (HCL.out _ (List.getElem_mem hkl))
        have HNE := Lib.hid (ne_of_get (a := la) (b := lb) hkl hkb)
        have HEQ := Lib.hid (take_eq_snoc HTK.out hkl hkb)
        clear hcc hcc' hbel
        generalize la[k] = x at *
        generalize lb[k] = y at *
        have p0 : wr.cell? ⟨g, o + k * 7, none⟩ = some (.int .i64 x.kind) := hcx 0 _ rfl
        have p1 : wr.cell? ⟨g, o + k * 7 + 1, none⟩ = some (.string x.at_) := hcx 1 _ rfl
        have p2 : wr.cell? ⟨g, o + k * 7 + 2, none⟩ = some (.int .i64 x.mode) := hcx 2 _ rfl
        have p3 : wr.cell? ⟨g, o + k * 7 + 3, none⟩ = some (.int .i64 x.time) := hcx 3 _ rfl
        have p4 : wr.cell? ⟨g, o + k * 7 + 4, none⟩ = some (.int .i64 x.size) := hcx 4 _ rfl
        have p5 : wr.cell? ⟨g, o + k * 7 + 5, none⟩ = some (.slice X x.chunks.length cx) := hcx 5 _ rfl
        have p6 : wr.cell? ⟨g, o + k * 7 + 6, none⟩ = some (.string x.target) := hcx 6 _ rfl
        have q0 : wr.cell? ⟨g', o' + k * 7, none⟩ = some (.int .i64 y.kind) := hcy 0 _ rfl
        have q1 : wr.cell? ⟨g', o' + k * 7 + 1, none⟩ = some (.string y.at_) := hcy 1 _ rfl
        have q2 : wr.cell? ⟨g', o' + k * 7 + 2, none⟩ = some (.int .i64 y.mode) := hcy 2 _ rfl
        have q3 : wr.cell? ⟨g', o' + k * 7 + 3, none⟩ = some (.int .i64 y.time) := hcy 3 _ rfl
        have q4 : wr.cell? ⟨g', o' + k * 7 + 4, none⟩ = some (.int .i64 y.size) := hcy 4 _ rfl
        have q5 : wr.cell? ⟨g', o' + k * 7 + 5, none⟩ = some (.slice Y y.chunks.length cy) := hcy 5 _ rfl
        have q6 : wr.cell? ⟨g', o' + k * 7 + 6, none⟩ = some (.string y.target) := hcy 6 _ rfl
        have hk0 : (0 : Int) ≤ (k : Int) := by omega
        have hka : (k : Int) < (la.length : Int) := by omega
        have hkb2 : (k : Int) < (lb.length : Int) := by omega
        have hk3 : ((k : Int)).toNat = k := by omega
        have HSX := Lib.hid hsx
        have HSY := Lib.hid hsy
        clear hcx hcy hsx hsy
        obtain ⟨wo, rfl⟩ : ∃ wo : World, wo = wr := ⟨_, rfl⟩
        go_upto_region 6 with fail
        have hba := (Below.refl wo.heap.size wo).alloc (Nat.le_refl _) (.cells (recC x X cx) 72)
        have HKA := Lib.hid (Blk.new wo 72 (recC x X cx))
        have HBA := Lib.hid hba
        have HQ := Lib.hid fun (i : Nat) (u : Value) (hi : wo.cell? ⟨g', o' + k * 7 + i, none⟩ = some u) => (hba.cell (p := ⟨g', o' + k * 7 + i, none⟩) hg').trans hi
        unfold recC at HKA HBA HQ
        generalize wo.alloc (.cells #[.int .i64 x.kind, .string x.at_, .int .i64 x.mode, .int .i64 x.time, .int .i64 x.size, .slice X x.chunks.length cx, .string x.target] 72) = wa at *
        have r0 : wa.cell? ⟨g', o' + k * 7, none⟩ = some (.int .i64 y.kind) := HQ.out 0 _ q0
        have r1 : wa.cell? ⟨g', o' + k * 7 + 1, none⟩ = some (.string y.at_) := HQ.out 1 _ q1
        have r2 : wa.cell? ⟨g', o' + k * 7 + 2, none⟩ = some (.int .i64 y.mode) := HQ.out 2 _ q2
        have r3 : wa.cell? ⟨g', o' + k * 7 + 3, none⟩ = some (.int .i64 y.time) := HQ.out 3 _ q3
        have r4 : wa.cell? ⟨g', o' + k * 7 + 4, none⟩ = some (.int .i64 y.size) := HQ.out 4 _ q4
        have r5 : wa.cell? ⟨g', o' + k * 7 + 5, none⟩ = some (.slice Y y.chunks.length cy) := HQ.out 5 _ q5
        have r6 : wa.cell? ⟨g', o' + k * 7 + 6, none⟩ = some (.string y.target) := HQ.out 6 _ q6
        clear p0 p1 p2 p3 p4 p5 p6 q0 q1 q2 q3 q4 q5 q6 hba
        go_upto_region 7 with fail
        have hbb := (Below.refl wa.heap.size wa).alloc (Nat.le_refl _) (.cells (recC y Y cy) 72)
        have HKB := Lib.hid (Blk.new wa 72 (recC y Y cy))
        have HKA2 := Lib.hid (HKA.out.below hbb HKA.out.lt)
        have HBB := Lib.hid (HBL.out.trans ((HBA.out.trans (hbb.mono HBA.out.size)).mono HBL.out.size))
        have HSX2 := Lib.hid (HSX.out.below (HBA.out.trans (hbb.mono HBA.out.size)))
        have HSY2 := Lib.hid (HSY.out.below (HBA.out.trans (hbb.mono HBA.out.size)))
        unfold recC at HKB HKA2 HBB HSX2 HSY2
        generalize wa.alloc (.cells #[.int .i64 y.kind, .string y.at_, .int .i64 y.mode, .int .i64 y.time, .int .i64 y.size, .slice Y y.chunks.length cy, .string y.target] 72) = wb at *
        clear r0 r1 r2 r3 r4 r5 r6 hbb HKA HBA HQ HBL HSX HSY
        obtain ⟨⟨a0, a1, a2, a3, a4, a5, a6⟩, _⟩ := blk7' HKA2.out
        obtain ⟨⟨b0, b1, b2, b3, b4, b5, b6⟩, _⟩ := blk7' HKB.out
        by_cases e0 : x.kind = y.kind
        rotate_left
        · have d0 : (x.kind != y.kind) = true := by rw [int_neb, decide_eq_false e0]; rfl
          have HX := Lib.hid (show decide (la = lb) = false from decide_eq_false (HNE.out (fun h => e0 (by rw [h]))))
          clear e0
          go_wp2
          go_ret
          exact ⟨ret_bool HX.out.symm, HBB.out⟩
        have d0 : (x.kind != y.kind) = false := by rw [int_neb, decide_eq_true e0]; rfl
        by_cases e1 : x.at_ = y.at_
        rotate_left
        · have d1 : (x.at_.toList == y.at_.toList) = false := by rw [txt_eqb, decide_eq_false e1]
          have HX := Lib.hid (show decide (la = lb) = false from decide_eq_false (HNE.out (fun h => e1 (by rw [h]))))
          clear e0 e1
          go_wp2
          go_ret
          exact ⟨ret_bool HX.out.symm, HBB.out⟩
        have d1 : (x.at_.toList == y.at_.toList) = true := by rw [txt_eqb, decide_eq_true e1]
        by_cases e2 : x.mode = y.mode
        rotate_left
        · have d2 : (x.mode != y.mode) = true := by rw [int_neb, decide_eq_false e2]; rfl
          have HX := Lib.hid (show decide (la = lb) = false from decide_eq_false (HNE.out (fun h => e2 (by rw [h]))))
          clear e0 e1 e2
          go_wp2
          go_ret
          exact ⟨ret_bool HX.out.symm, HBB.out⟩
        have d2 : (x.mode != y.mode) = false := by rw [int_neb, decide_eq_true e2]; rfl
        by_cases e3 : x.time = y.time
        rotate_left
        · have d3 : (x.time != y.time) = true := by rw [int_neb, decide_eq_false e3]; rfl
          have HX := Lib.hid (show decide (la = lb) = false from decide_eq_false (HNE.out (fun h => e3 (by rw [h]))))
          clear e0 e1 e2 e3
          go_wp2
          go_ret
          exact ⟨ret_bool HX.out.symm, HBB.out⟩
        have d3 : (x.time != y.time) = false := by rw [int_neb, decide_eq_true e3]; rfl
        by_cases e4 : x.size = y.size
        rotate_left
        · have d4 : (x.size != y.size) = true := by rw [int_neb, decide_eq_false e4]; rfl
          have HX := Lib.hid (show decide (la = lb) = false from decide_eq_false (HNE.out (fun h => e4 (by rw [h]))))
          clear e0 e1 e2 e3 e4
          go_wp2
          go_ret
          exact ⟨ret_bool HX.out.symm, HBB.out⟩
        have d4 : (x.size != y.size) = false := by rw [int_neb, decide_eq_true e4]; rfl
        by_cases e5 : x.target = y.target
        rotate_left
        · have d5 : (x.target.toList == y.target.toList) = false := by rw [txt_eqb, decide_eq_false e5]
          have HX := Lib.hid (show decide (la = lb) = false from decide_eq_false (HNE.out (fun h => e5 (by rw [h]))))
          clear e0 e1 e2 e3 e4 e5
          go_wp2
          go_ret
          exact ⟨ret_bool HX.out.symm, HBB.out⟩
        have d5 : (x.target.toList == y.target.toList) = true := by rw [txt_eqb, decide_eq_true e5]
        by_cases e6 : x.chunks.length = y.chunks.length
        rotate_left
        · have d6 : ((x.chunks.length : Int) != (y.chunks.length : Int)) = true := by rw [len_neb, decide_eq_false e6]; rfl
          have HX := Lib.hid (show decide (la = lb) = false from decide_eq_false (HNE.out (fun h => e6 (by rw [h]))))
          clear e0 e1 e2 e3 e4 e5 e6
          go_wp2
          go_ret
          exact ⟨ret_bool HX.out.symm, HBB.out⟩
        have d6 : ((x.chunks.length : Int) != (y.chunks.length : Int)) = false := by rw [len_neb, decide_eq_true e6]; rfl
        have HE := Lib.hid (fun (e : x.chunks = y.chunks) => nr_ext e0 e1 e2 e3 e4 e5 e)
        have HCE := Lib.hid e6
        clear e0 e1 e2 e3 e4 e5 e6
        go_wp2
        go_loopw [8, 77] (fun _ i wi => ∃ j : Nat, i = .int .i64 j ∧ j ≤ x.chunks.length ∧ x.chunks.take j = y.chunks.take j ∧ Below wb.heap.size wb wi) (fun _ i _ => x.chunks.length - (intOf i).toNat)
        case atStart => exact ⟨0, rfl, Nat.zero_le _, by simp, Below.refl _ _⟩
        case round =>
          obtain ⟨j, rfl, hj, htj, hbi⟩ := hrel
          have HBI := Lib.hid hbi
          have HTJ := Lib.hid htj
          clear htj hbi a0 a1 a2 a3 a4 a5 a6 b0 b1 b2 b3 b4 b5 b6
          have hce := HCE.out
          have hclx := HCK.out
          by_cases hjl : j < x.chunks.length
          · have HJL := Lib.hid hjl
            have hjb : j < y.chunks.length := by omega
            obtain ⟨gx, ox, rfl, hgx, hxc⟩ := HSX2.out (by omega)
            obtain ⟨gy, oy, rfl, hgy, hyc⟩ := HSY2.out (by omega)
            have hx1 := (HBI.out.cell (p := ⟨gx, ox + j, none⟩) hgx).trans (hxc j x.chunks[j] (List.getElem?_eq_getElem hjl))
            have hy1 := (HBI.out.cell (p := ⟨gy, oy + j, none⟩) hgy).trans (hyc j y.chunks[j] (List.getElem?_eq_getElem hjb))
            have HNE2 := Lib.hid (ne_of_get (a := x.chunks) (b := y.chunks) hjl hjb)
            have HEQ2 := Lib.hid (take_eq_snoc HTJ.out hjl hjb)
            have k5 : wr.cell? ⟨wo.heap.size, 5, none⟩ = some (.slice (some ⟨gx, ox, none⟩) x.chunks.length cx) := (HKA2.out.below HBI.out HKA2.out.lt).cell 5
            have k6 : wr.cell? ⟨wa.heap.size, 5, none⟩ = some (.slice (some ⟨gy, oy, none⟩) y.chunks.length cy) := (HKB.out.below HBI.out HKB.out.lt).cell 5
            clear hxc hyc
            generalize x.chunks[j] = u at *
            generalize y.chunks[j] = v at *
            have hj0 : (0 : Int) ≤ (j : Int) := by omega
            have hjx : (j : Int) < (x.chunks.length : Int) := by omega
            have hjy : (j : Int) < (y.chunks.length : Int) := by omega
            have hj3 : ((j : Int)).toNat = j := by omega
            by_cases huv : u = v
            · have dd : (u.toList == v.toList) = true := by rw [txt_eqb, decide_eq_true huv]
              have HS := Lib.hid (HEQ2.out huv)
              clear huv
              go_wp2
              go_quiet (fail)
              go_wp2
              go_roundw
              case rel => exact ⟨j + 1, by go_num, HJL.out, HS.out, Go.below_drewN HBI.out nq⟩
              case measure => have := HJL.out; simp [intOf]; omega
            · have dd : (u.toList == v.toList) = false := by rw [txt_eqb, decide_eq_false huv]
              have HX := Lib.hid (show decide (la = lb) = false from decide_eq_false (HNE.out fun h => HNE2.out huv (by rw [h])))
              have HB9 := Lib.hid (HBB.out.trans (HBI.out.mono HBB.out.size))
              clear huv
              go_wp2
              go_quiet (fail)
              go_wp2
              go_ret
              exact ⟨ret_bool HX.out.symm, Go.below_drewN HB9.out nq⟩
          · obtain rfl : j = x.chunks.length := by omega
            have HXE := Lib.hid (HEQ.out (HE.out (by
              have := HTJ.out
              rw [List.take_length, List.take_of_length_le (by omega)] at this
              exact this)))
            have HB9 := Lib.hid (HBB.out.trans (HBI.out.mono HBB.out.size))
            go_wp2
            go_roundw
            case rel => exact ⟨k + 1, by go_num, by omega, HXE.out, HB9.out⟩
            case measure => simp [intOf]; omega
      · obtain rfl : k = la.length := by omega
        have HX := Lib.hid (show decide (la = lb) = true from decide_eq_true (by
          have := HTK.out
          rw [List.take_length, List.take_of_length_le (by have := HLE.out; omega)] at this
          exact this))
        go_wp2
        go_ret
        exact ⟨ret_bool HX.out.symm, HBL.out⟩
  · have hq : ((la.length : Int) != (lb.length : Int)) = true := by rw [len_neb, decide_eq_false hlen]; rfl
    have HX := Lib.hid (show decide (la = lb) = false from decide_eq_false fun e => hlen (by rw [e]))
    clear hlen
    go_enter Tryd.func25, Tryd.ntmps25
    go_wp2
    go_ret
    exact ⟨ret_bool HX.out.symm, Below.refl _ _⟩
end Go.Proofs.YtaoejgnfoecpfaaDoor
