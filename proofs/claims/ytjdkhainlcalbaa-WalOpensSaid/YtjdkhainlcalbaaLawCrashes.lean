/- The law WalCrashes: the walk. -/
import Derived.Test.YtjdkhainlcalbaaWm
import Derived.Test.YtjdkhainlcalbaaLawPlays
namespace Go.Proofs.Ytjdkhainlcalbaa
open Go.RowKit Go.Maps

/-- behind k calls -/
def CrI (w : World) (b lb k : Nat) (recs : List ByteArray) (vw : Value) (wr : World) : Prop := ∃ D L v files i o t c, WlUp w wr b D L lb v recs (decide (0 < c.size)) ∧ LogSt D (frames recs ++ c) files i o t ∧ TailOk c ∧ RowOff w wr b L lb v vw recs ∧ recs.length ≤ k ∧ (∀ r ∈ recs, r.size ≤ 300) ∧ (frames recs).size ≤ 308 * k ∧ files.length ≤ 3
theorem DoneOr.crash {D : Dk} {ei : Int} {want next recs' : List ByteArray} (h : DoneOr D ei want next recs') (ks : List Int) :
    ∃ rs c f i o t, ((rs = want ∨ rs = next) ∧ (ei = 0 → rs = next)) ∧ TailOk c ∧ LogSt ((D.armed (-1)).crash ks) (frames rs ++ c) f i o t ∧ f.length ≤ 3 := by
  have e : D.armed (-1) = D.at' (-1) D.dead := rfl
  rw [e]
  rcases h with ⟨h0, _, h⟩ | ⟨h0, h⟩
  · obtain ⟨rs, c, f, i, o, t, h1, h2, h3, h4⟩ := (h.at' (-1) D.dead) ks
    exact ⟨rs, c, f, i, o, t, ⟨Or.inr h1, fun _ => h1⟩, h2, h3, h4⟩
  · obtain ⟨rs, c, f, i, o, t, h1, h2, h3, h4⟩ := (h.at' (-1) D.dead) ks
    exact ⟨rs, c, f, i, o, t, ⟨h1, fun h => by omega⟩, h2, h3, h4⟩
/-- a block of the law's own, apart from the log and its disk -/
structure BoxOff (w : World) (b : Nat) (L : Lay) (lb : Nat) (v : Value) (bx : Nat) (cs : Array Value) (ty : TypeId) : Prop where
  blk : BlockIs w bx cs ty
  off : ¬ bothFoot b L lb v bx
theorem RowInt.shape {w : World} {v : Value} {l : List Int} (h : RowInt w v l) : ∃ a n c, v = .slice a n c := by
  rcases h with ⟨⟨a, c, h⟩, _⟩ | ⟨b, o, c, h, _⟩
  · exact ⟨_, _, _, h⟩
  · exact ⟨_, _, _, h⟩
theorem BoxOff.post {w w' : World} {b : Nat} {L L' : Lay} {lb : Nat} {v v' : Value} {bx : Nat} {cs : Array Value} {ty : TypeId} (h : BoxOff w b L lb v bx cs ty) (h2 : Touch (bothFoot b L lb v) w w') (h3 : ∀ k, bothFoot b L' lb v' k → bothFoot b L lb v k ∨ w.heap.size ≤ k) : BoxOff w' b L' lb v' bx cs ty :=
  ⟨h.blk.keep (h2.block bx h.blk.lt h.off), fun hf => (h3 bx hf).elim h.off (fun e => by have := h.blk.lt; omega)⟩
theorem BoxOff.keep {w w' : World} {b : Nat} {L : Lay} {lb : Nat} {v : Value} {bx : Nat} {cs : Array Value} {ty : TypeId} (h : BoxOff w b L lb v bx cs ty) (hk : w'.heap[bx]? = w.heap[bx]?) : BoxOff w' b L lb v bx cs ty := ⟨h.blk.keep hk, h.off⟩
/-- behind the call, ahead of the crash -/
def MidI (w : World) (b lb k bx : Nat) (cs : Array Value) (ty : TypeId) (recs next : List ByteArray) (vw vn : Value) (ei : Int) (wc : World) : Prop := ∃ D L v recs' torn', WlUp w wc b D L lb v recs' torn' ∧ DoneOr D ei recs next recs' ∧ D.small 1000 ∧ RowOff w wc b L lb v vw recs ∧ RowOff w wc b L lb v vn next ∧ BoxOff wc b L lb v bx cs ty ∧
  next.length ≤ k + 1 ∧ (∀ r ∈ next, r.size ≤ 300) ∧ (frames next).size ≤ 308 * (k + 1)

/-- the row of what comes next: all that is wanted, and one more -/
theorem next_fin {w w6 w7 w8 : World} {b : Nat} {D : Dk} {L : Lay} {lb : Nat} {v vw u7 : Value} {recs6 recs : List ByteArray} {torn6 : Bool} {bx g0 g8 cap8 : Nat} {cs : Array Value} {ty : TypeId} {s3 : ByteArray}
    (HU : WlUp w w6 b D L lb v recs6 torn6) (HW : RowOff w w6 b L lb v vw recs) (HN : RowOff w w6 b L lb v (.slice (some ⟨g0, 0, none⟩) 0 0) []) (HB : BoxOff w6 b L lb v bx cs ty)
    (hvw : ∀ q, vw.ownBlock = some q → q < g0) (hbx : bx < g0) (hg7 : w6.grownBy w7 (some g0)) (hl7 : u7.ownBlock = some g0 ∨ u7.ownBlock = some w6.heap.size) (ho7 : w7.ownsRow w.heap.size 9 1 u7 recs.length (recs.map .string))
    (hg8 : w7.grownBy w8 u7.ownBlock) (hl8 : u7.ownBlock = some g8 ∨ g8 = w7.heap.size + 1) (ho8 : w8.ownsRow w.heap.size 9 1 (.slice (some ⟨g8, 0, none⟩) (recs.length + 1) cap8) (recs.length + 1) (recs.map .string ++ [.string s3])) :
    WlUp w w8 b D L lb v recs6 torn6 ∧ RowOff w w8 b L lb v vw recs ∧ RowOff w w8 b L lb v (.slice (some ⟨g8, 0, none⟩) (recs.length + 1) cap8) (recs ++ [s3]) ∧ BoxOff w8 b L lb v bx cs ty := by
  have hg0 : g0 < w6.heap.size := (ownsRow_lt HN.row (k := g0) rfl).2
  have hz7 := hg7.size
  have b7 : Below w.heap.size w w7 := below_grown HU.bel HU.bel.size HN.row hg7
  have b8 : Below w.heap.size w w8 := below_grown b7 b7.size ho7 hg8
  have U7 := HU.beside hg7 (fun q hq => HN.off q hq) b7
  have o7 : ∀ q, u7.ownBlock = some q → ¬ bothFoot b L lb v q := fun q hq hf => by
    rcases hl7 with e | e
    · exact HN.off q (show some g0 = some q from e.symm.trans hq) hf
    · have := HU.bothLt q hf
      rw [e] at hq
      have := Option.some.inj hq
      omega
  refine ⟨U7.beside hg8 o7 b8, (HW.beside hg7 (fun q hq e => ?_)).beside hg8 (fun q hq e => ?_), ⟨by rw [List.length_append, List.map_append]; exact ho8, fun q hq hf => ?_⟩, (HB.keep (w' := w7) ?_).keep ?_⟩
  · have := hvw q hq
    have := Option.some.inj e
    omega
  · have := hvw q hq
    rcases hl7 with h | h
    · rw [h] at e; have := Option.some.inj e; omega
    · rw [h] at e; have := Option.some.inj e; omega
  · obtain rfl : g8 = q := Option.some.inj hq
    rcases hl8 with e | e
    · exact o7 g8 e hf
    · have := U7.bothLt g8 hf; omega
  · exact hg7.block bx HB.blk.lt (fun e => by have := Option.some.inj e; omega)
  · refine hg8.block bx (by have := HB.blk.lt; omega) (fun e => ?_)
    rcases hl7 with h | h
    · rw [h] at e; have := Option.some.inj e; omega
    · rw [h] at e; have := Option.some.inj e; have := HB.blk.lt; omega

set_option maxHeartbeats 6400000 in
set_option maxRecDepth 100000 in
theorem crashes_all (l : List Op15) (va : Value) (w : World) (hv : RowOp15 w va l) :
    Calls Try.prog 14 #[va] w fun e w' => e = .returned (.bool true) ∧ Below w.heap.size w w' := by
  have HS := Lib.hid (startUp w)
  have HA := Lib.hid fun w' => awake15_any w'
  obtain ⟨a, c, rfl, hl1, hcell⟩ := hv
  have HV := Lib.hid hcell
  clear hcell
  go_enter Try.func14, Try.ntmps14
  go_wp2_with fail
  refine HS.out.mono ?_
  rintro e w1 ⟨b, L, lb, v, rfl, hu⟩
  have hrow := hu.withRow ((Below.refl _ w1).alloc (Nat.le_refl _) (.cells #[] 9)) (want2 := []) (row_nil w1 9 w1.heap.size (Nat.le_refl _))
  have HR := Lib.hid hrow
  clear hu HS hrow
  go_wp2_with fail
  refine (HA.out _).mono ?_
  rintro e w2 ⟨rfl, hb2⟩
  have HR2 := Lib.hid (HR.out.bel hb2)
  clear hb2 HR
  go_wp2_with fail
  refine (same15Row HR2.out (by decide) (by decide)).mono ?_
  rintro e w3 ⟨rfl, hb3⟩
  have HR3 := Lib.hid (HR2.out.bel hb3)
  clear hb3 HR2
  have HI := Lib.hid (show CrI w b lb 0 [] (.slice (some ⟨w1.heap.size, 0, none⟩) 0 0) w3 from ⟨_, L, v, _, _, _, _, ⟨#[]⟩, HR3.out.up, by rw [app_nil]; exact mkL_st, tail_nil, ⟨HR3.out.row, HR3.out.off⟩, Nat.le_refl _, fun r hr => by simp at hr, Nat.le_refl _, by decide⟩)
  clear HR3
  go_wp2
  go_loopw [4, 5, 6] (fun sl sw i wr => ∃ k lb recs vw, k ≤ 20 ∧ k ≤ l.length ∧ i = .int .i64 (k : Nat) ∧ sl = .pointer (some ⟨lb, 0, none⟩) ∧ vw = sw ∧ CrI w b lb k recs vw wr) (fun _ _ i _ => 20 - (intOf i).toNat)
  case atStart => exact ⟨0, lb, [], _, by omega, by omega, rfl, rfl, rfl, HI.out⟩
  case round =>
    clear HI
    obtain ⟨k, lb, recs, vw, hk, hkl, rfl, rfl, rfl, hI⟩ := hrel
    obtain ⟨D, L, v, files, i, o, t, cc, hu, hst, htl, hrw, hr1, hr2, hr3, hr4⟩ := hI
    have HU := Lib.hid hu
    have HST := Lib.hid hst
    have HTL := Lib.hid htl
    have HRW := Lib.hid hrw
    have HR2 := Lib.hid hr2
    have HR3 := Lib.hid hr3
    clear hu hst hr2 hr3 htl hrw
    by_cases hlt : k < l.length ∧ k < 20
    · obtain ⟨h1, h2⟩ := hlt
      obtain ⟨bb, oo, cs, rfl, hbb, hdec, hcc⟩ := HV.out k h1
      obtain ⟨rfl, hz, har, hkv, hks⟩ := hdec
      have hc0 : wr.cell? ⟨bb, oo + k * 4, none⟩ = some (.bool (l[k]).reset) := (HU.out.bel.cell (p := ⟨bb, oo + k * 4, none⟩) hbb).trans (hcc 0 _ rfl)
      have hc1 : wr.cell? ⟨bb, oo + k * 4 + 1, none⟩ = some (.string (l[k]).add) := (HU.out.bel.cell (p := ⟨bb, oo + k * 4 + 1, none⟩) hbb).trans (hcc 1 _ rfl)
      have hc2 : wr.cell? ⟨bb, oo + k * 4 + 2, none⟩ = some (.int .i64 (l[k]).arm) := (HU.out.bel.cell (p := ⟨bb, oo + k * 4 + 2, none⟩) hbb).trans (hcc 2 _ rfl)
      have hc3 : wr.cell? ⟨bb, oo + k * 4 + 3, none⟩ = some (l[k]).kv := (HU.out.bel.cell (p := ⟨bb, oo + k * 4 + 3, none⟩) hbb).trans (hcc 3 _ rfl)
      clear hcc
      generalize l[k] = x at *
      obtain ⟨reset, s, arm, kv, ks⟩ := x
      simp only at hc0 hc1 hc2 hc3 hz har hkv hks
      obtain ⟨ka, kn, kc, rfl⟩ := hkv.shape
      have HKV := Lib.hid hkv
      have HKS := Lib.hid hks
      clear hkv hks
      go_wp2_with fail
      have HB0 := Lib.hid (show Below wr.heap.size wr (wr.alloc (.cells #[.bool reset, .string s, .int .i64 arm, .slice ka kn kc] 92)) from (Below.refl _ _).alloc (Nat.le_refl _) _)
      have HBX := Lib.hid (show BoxOff (wr.alloc (.cells #[.bool reset, .string s, .int .i64 arm, .slice ka kn kc] 92)) b L lb v wr.heap.size #[.bool reset, .string s, .int .i64 arm, .slice ka kn kc] 92 from ⟨BlockIs.new _ _ _, fun hf => Nat.lt_irrefl _ (HU.out.bothLt _ hf)⟩)
      refine (armPost arm (HU.out.up HB0.out) har).mono ?_
      rintro e w4 ⟨rfl, L4, v4, hb4, ht4, hf4⟩
      have HU4 := Lib.hid ((HU.out.up HB0.out).post1 hb4 ht4 hf4)
      have HW4 := Lib.hid ((HRW.out.bel HB0.out).post ht4 hf4)
      have HBX4 := Lib.hid (HBX.out.post ht4 hf4)
      have hx0 : w4.cell? ⟨wr.heap.size, 0, none⟩ = some (.bool reset) := HBX4.out.blk.cell 0
      have hx1 : w4.cell? ⟨wr.heap.size, 1, none⟩ = some (.string s) := HBX4.out.blk.cell 1
      clear hb4 ht4 hf4 hc0 hc1 hc2 hc3
      generalize wr.heap.size = bx at *
      have hbx4 := HBX4.out.blk.lt
      clear HB0 HBX HRW HU
      go_upto_if 46 with (fail)
      go_cut [8, 9] (fun s8 s9 wc => ∃ next ei, s9 = .int .i64 ei ∧ MidI w b lb k bx #[.bool reset, .string s, .int .i64 arm, .slice ka kn kc] 92 recs next vw s8 ei wc)
      case first =>
        have HN4 := Lib.hid (show Below w4.heap.size w4 (w4.alloc (.cells #[] 9)) from (Below.refl _ _).alloc (Nat.le_refl _) _)
        have HU5 := Lib.hid (HU4.out.up HN4.out)
        have HW5 := Lib.hid (HW4.out.bel HN4.out)
        have HBX5 := Lib.hid (HBX4.out.keep (HN4.out.block _ hbx4))
        have HNX5 := Lib.hid (RowOff.new (want2 := []) HU4.out (row_nil w4 9 w4.heap.size (Nat.le_refl _)))
        cases reset with
        | true =>
          have HC := Lib.hid (resetArm (c := cc) arm HU5.out HST.out HTL.out (by have := HR3.out; have := HTL.out.size; rw [ByteArray.size_append]; omega) (by omega))
          go_wp2_with (fail)
          refine HC.out.mono ?_
          rintro e w6 ⟨D6, recs6, torn6, ei, rfl, ⟨L6, v6, hb6, ht6, hf6⟩, hd6, hs6⟩
          have HM := Lib.hid (show MidI w b lb k bx _ 92 recs [] vw _ ei w6 from ⟨D6, L6, v6, recs6, torn6, HU5.out.post1 hb6 ht6 hf6, hd6, hs6, HW5.out.post ht6 hf6, HNX5.out.post ht6 hf6, HBX5.out.post ht6 hf6, Nat.zero_le _, fun r hr => by simp at hr, Nat.zero_le _⟩)
          clear hb6 ht6 hf6 hd6 hs6
          go_wp2_with (fail)
          go_meet
          exact ⟨[], ei, rfl, HM.out⟩
        | false =>
          have HF := Lib.hid fun W => few_any s 300 W hz
          have hfz := few_size s 300
          generalize few s 300 = s3 at *
          have HC := Lib.hid (addArm (c := cc) arm s3 HU5.out HST.out HTL.out hfz (by have := HR3.out; omega) HR2.out (by omega) (by omega))
          have hzz := frame_size s3
          have HSN := Lib.hid (frames_snoc recs s3)
          have HZ4 := Lib.hid (show (frames (recs ++ [s3])).size ≤ 308 * (k + 1) by rw [HSN.out, ByteArray.size_append, hzz]; have := HR3.out; omega)
          have HAL := Lib.hid (show ∀ r ∈ recs ++ [s3], r.size ≤ 300 from fun q hq => by
            rcases List.mem_append.1 hq with hq | hq
            · exact HR2.out q hq
            · rw [List.mem_singleton.1 hq]; exact hfz)
          clear hzz
          go_wp2_with (fail)
          refine (HF.out _).mono ?_
          rintro e w5 ⟨rfl, rfl⟩
          go_wp2_with (fail)
          refine HC.out.mono ?_
          rintro e w6 ⟨D6, recs6, torn6, ei, rfl, ⟨L6, v6, hb6, ht6, hf6⟩, hd6, hs6⟩
          have HU6 := Lib.hid (HU5.out.post1 hb6 ht6 hf6)
          have HW6 := Lib.hid (HW5.out.post ht6 hf6)
          have HNX6 := Lib.hid (HNX5.out.post ht6 hf6)
          have HBX6 := Lib.hid (HBX5.out.post ht6 hf6)
          have HD6 := Lib.hid hd6
          have HS6 := Lib.hid hs6
          have hw6 := HW6.out.row
          have hn6 := HNX6.out.row
          have hsz6 := HU6.out.bel.size
          clear hb6 ht6 hf6 hd6 hs6 HC HU5 HW5 HNX5 HBX5
          go_wp2_with (first
            | (at_builtin; refine wpList_appRow rfl _ _ 25 rfl w.heap.size 9 Try.underlying25 infoStr rfl (by decide) _ 0 [] rfl hn6 _ recs.length _ (recs.map .string) rfl hw6 ?_ ?_ ?_ hsz6 ?_; (intro y hy; obtain ⟨r, _, rfl⟩ := List.mem_map.1 hy; rfl); omega; omega; rintro u7 w7 ho7 hg7 hl7 ⟨ad7, cp7, rfl⟩; simp only [Nat.zero_add, List.nil_append] at ho7; simp only [Nat.zero_add] at hl7)
            | (at_builtin; refine wpList_app1 rfl _ _ 25 rfl w.heap.size 9 Try.underlying25 infoStr rfl (by decide) _ _ _ rfl ho7 _ rfl rfl (oneCell_string _) ?_ ?_ ?_ ?_; omega; omega; (have := hg7.size; omega); intro g8 cap8 w8 ho8 hg8 hb8 hl8))
          go_meet
          obtain ⟨q1, q2, q3, q4⟩ := next_fin HU6.out HW6.out HNX6.out HBX6.out (fun q hq => (ownsRow_lt HW4.out.row hq).2) hbx4 hg7 (u7 := .slice ad7 recs.length cp7) hl7 ho7 hg8 hl8 ho8
          exact ⟨recs ++ [s3], ei, rfl, D6, L6, v6, recs6, torn6, q1, HD6.out, HS6.out, q2, q3, q4, by simp; omega, HAL.out, HZ4.out⟩
      case rest =>
        obtain ⟨next, ei, rfl, hM⟩ := hcut
        clear HU4 HW4 HBX4 HST HTL hx0 hx1 hbx4 hr4
        obtain ⟨D5, L5, v5, recs5, torn5, hu5, hd5, hs5, hw5, hn5, hb5, hn1, hn2, hn3⟩ := hM
        have HU5 := Lib.hid hu5
        have HD5 := Lib.hid hd5
        have HS5 := Lib.hid hs5
        have HW5 := Lib.hid hw5
        have HNX5 := Lib.hid hn5
        have HBX5 := Lib.hid hb5
        have HN2 := Lib.hid hn2
        have HN3 := Lib.hid hn3
        have hei : ei = 0 ∨ ei = 10 := by rcases hd5 with ⟨h, _⟩ | ⟨h, _⟩ <;> omega
        clear hu5 hd5 hs5 hw5 hn5 hb5 hn2 hn3
        have HK5 := Lib.hid (HKV.out.below HU5.out.bel)
        have hx3 : wc.cell? ⟨bx, 3, none⟩ = some (.slice ka kn kc) := HBX5.out.blk.cell 3
        have q17 : ∀ e', e' = ei → ((e' != 0) && (e' != 10)) = false := fun e' he => by rcases hei with h | h <;> subst he <;> subst h <;> rfl
        rcases hei with rfl | rfl
        all_goals
          go_wp2_with fail
          refine (armPost (-1) HU5.out (by decide)).mono ?_
          rintro e w6 ⟨rfl, L6, v6, hb6, ht6, hf6⟩
          have HU6 := Lib.hid (HU5.out.post1 hb6 ht6 hf6)
          have HW6 := Lib.hid (HW5.out.post ht6 hf6)
          have HNX6 := Lib.hid (HNX5.out.post ht6 hf6)
          have HBX6 := Lib.hid (HBX5.out.post ht6 hf6)
          have HK6 := Lib.hid (HKV.out.below HU6.out.bel)
          have hx3 : w6.cell? ⟨bx, 3, none⟩ = some (.slice ka kn kc) := HBX6.out.blk.cell 3
          clear hb6 ht6 hf6 HU5 HW5 HNX5 HBX5
          go_wp2_with fail
          refine (crashPost ks _ HU6.out HK6.out HKS.out (small_armed (HS5.out.mono (by omega)) (-1))).mono ?_
          rintro e w7 ⟨rfl, L7, v7, hb7, ht7, hf7⟩
          have HU7 := Lib.hid (HU6.out.post1 hb7 ht7 hf7)
          have HW7 := Lib.hid (HW6.out.post ht7 hf7)
          have HNX7 := Lib.hid (HNX6.out.post ht7 hf7)
          clear hb7 ht7 hf7 HU6 HW6 HNX6 HBX6 hx3
          obtain ⟨rs, c2, f2, i2, o2, t2, hX, ht2, hl2, hf2⟩ := HD5.out.crash ks
          have HRS := Lib.hid (show rs.length ≤ k + 1 ∧ (∀ r ∈ rs, r.size ≤ 300) ∧ (frames rs).size ≤ 308 * (k + 1) from by
            rcases hX.1 with h | h
            · rw [h]; exact ⟨by omega, HR2.out, by have := HR3.out; omega⟩
            · rw [h]; exact ⟨hn1, HN2.out, HN3.out⟩)
          have HX := Lib.hid hX
          have HT2 := Lib.hid ht2
          have HL2 := Lib.hid hl2
          clear hX ht2 hl2
          have HC := Lib.hid (openTail HU7.out HL2.out HT2.out HRS.out.2.1 (by have := HRS.out.1; omega))
          go_wp2_with fail
          refine HC.out.mono ?_
          rintro e w8 ⟨lb2, v8, rfl, hu8, hb8, hf8⟩
          have HU8 := Lib.hid hu8
          have HW8 := Lib.hid (HW7.out.open hb8 hf8)
          have HNX8 := Lib.hid (HNX7.out.open hb8 hf8)
          clear hu8 hb8 hf8 HC HU7 HW7 HNX7
          go_wp2_with fail
          refine (othersUp HU8.out.dk HL2.out).mono ?_
          rintro e w9 ⟨rfl, hb9⟩
          have HU9 := Lib.hid (HU8.out.up hb9)
          have HW9 := Lib.hid (HW8.out.bel hb9)
          have HNX9 := Lib.hid (HNX8.out.bel hb9)
          clear hb9 HU8 HW8 HNX8
          have HC := Lib.hid (same15_any lb2 b v8 _ rs next _ w9 HU9.out.both.lg HNX9.out.rd (by have := HRS.out.1; omega) (by omega))
          have HREC := Lib.hid fun W (h : WlUp w W b ((D5.armed (-1)).crash ks) L7 lb2 v8 rs (decide (0 < c2.size))) => records_any lb2 b v8 rs _ W h.both.lg (by have := HRS.out.1; omega)
          by_cases hsn : rs = next
          · rw [decide_eq_true hsn] at HC
            clear hsn
            go_wp2_with fail
            refine HC.out.mono ?_
            rintro e w10 ⟨rfl, hb10⟩
            have HU10 := Lib.hid (HU9.out.up hb10)
            clear hb10 HU9 HC
            go_wp2_with fail
            refine (HREC.out _ HU10.out).mono ?_
            rintro e w11 ⟨u, rfl, ho11, hb11, ad11, cp11, rfl⟩
            have HI11 := Lib.hid (show CrI w b lb2 (k + 1) rs _ w11 from ⟨_, L7, v8, _, _, _, _, c2, HU10.out.up hb11, HL2.out, HT2.out, RowOff.new HU10.out ho11, HRS.out.1, HRS.out.2.1, HRS.out.2.2, hf2⟩)
            clear ho11 hb11
            go_wp2
            go_roundw
            case rel => exact ⟨k + 1, lb2, rs, _, by omega, by omega, by go_num, rfl, rfl, HI11.out⟩
            case measure => simp [intOf]; omega
          · first
              | (refine absurd (HX.out.2 ?_) hsn; trivial)
              | (rw [decide_eq_false hsn] at HC
                 have hrs : rs = recs := HX.out.1.resolve_right hsn
                 have HC2 := Lib.hid fun W (h : WlUp w W b ((D5.armed (-1)).crash ks) L7 lb2 v8 rs (decide (0 < c2.size))) (h2 : RowOff w W b L7 lb2 v8 vw recs) => same15_any lb2 b v8 _ rs recs _ W h.both.lg h2.rd (by have := HRS.out.1; omega) (by omega)
                 rw [decide_eq_true hrs] at HC2
                 clear hsn hrs
                 go_wp2_with fail
                 refine HC.out.mono ?_
                 rintro e w10 ⟨rfl, hb10⟩
                 have HU10 := Lib.hid (HU9.out.up hb10)
                 have HW10 := Lib.hid (HW9.out.bel hb10)
                 clear hb10 HU9 HC HW9
                 go_wp2_with fail
                 refine (HC2.out _ HU10.out HW10.out).mono ?_
                 rintro e w10b ⟨rfl, hb10⟩
                 have HU12 := Lib.hid (HU10.out.up hb10)
                 clear hb10 HU10 HC2
                 go_wp2_with fail
                 refine (HREC.out _ HU12.out).mono ?_
                 rintro e w11 ⟨u, rfl, ho11, hb11, ad11, cp11, rfl⟩
                 have HI11 := Lib.hid (show CrI w b lb2 (k + 1) rs _ w11 from ⟨_, L7, v8, _, _, _, _, c2, HU12.out.up hb11, HL2.out, HT2.out, RowOff.new HU12.out ho11, HRS.out.1, HRS.out.2.1, HRS.out.2.2, hf2⟩)
                 clear ho11 hb11
                 go_wp2
                 go_roundw
                 case rel => exact ⟨k + 1, lb2, rs, _, by omega, by omega, by go_num, rfl, rfl, HI11.out⟩
                 case measure => simp [intOf]; omega)
    · rcases (by omega : ¬ k < l.length ∨ (k < l.length ∧ ¬ k < 20)) with h1 | ⟨h1, h2⟩
      all_goals
        clear hlt
        go_wp2
        go_ret
        exact ⟨rfl, HU.out.bel⟩
end Go.Proofs.Ytjdkhainlcalbaa
