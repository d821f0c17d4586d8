/- The document's step. -/
import Derived.Test.YtpeepdkeicgkiaaGreatDoorZo12
import Derived.Test.YtpeepdkeicgkiaaGreatDoorZo13
namespace Go.Proofs.YtpeepdkeicgkiaaGreatDoor
set_option linter.unusedVariables false
set_option linter.unusedSimpArgs false
set_option linter.unusedSectionVars false
open Go.RowKit

def StepPost (v : V8) (k x : W32) (w : World) (e : Ending) (w' : World) : Prop := ∃ g, e = .returned (.slice (some ⟨g, 0, none⟩) 8 8) ∧ w.heap.size ≤ g ∧ WsAt w' g (v.step k x).toL ∧ Below w.heap.size w w'
/-- the choices so far, and the most -/
def StpW (w0 w : World) (g : Nat) (v : V8) (k x : W32) (n : Nat) : Prop :=
  Below w0.heap.size w0 w ∧ WsAt w g v.toL ∧ Blk w w0.heap.size 135 (wordC k) ∧ Blk w (w0.heap.size + 1) 135 (wordC x) ∧
    Blk w (w0.heap.size + 1 + 1) 135 (bitsC fun i => decide (i < n) && (chW v.e v.f v.g).getMsbD i) ∧ Blk w (w0.heap.size + 1 + 1 + 1) 135 (bitsC fun i => decide (i < n) && (maW v.a v.b v.c).getMsbD i)
set_option maxRecDepth 100000 in
set_option maxHeartbeats 6400000 in
theorem step_any (v : V8) (k x : W32) (g cv : Nat) (w : World) (hv : WsAt w g v.toL) (hcv : 8 ≤ cv) :
    Calls Tryz.prog 85 #[.slice (some ⟨g, 0, none⟩) 8 cv, .agg (wordC k), .agg (wordC x)] w (StepPost v k x w) := by
  have hz := zC_lit
  have hgl := hv.1
  have HA1 := Lib.hid (Blk.new w 135 (wordC k))
  have HA2 := Lib.hid (And.intro (HA1.out.alloc (.cells (wordC x) 135)) (Blk.new (w.alloc (.cells (wordC k) 135)) 135 (wordC x)))
  have HA3 := Lib.hid (And.intro (HA2.out.1.alloc (.cells zC 135)) (And.intro (HA2.out.2.alloc (.cells zC 135)) (Blk.new ((w.alloc (.cells (wordC k) 135)).alloc (.cells (wordC x) 135)) 135 zC)))
  have HA4 := Lib.hid (And.intro (HA3.out.1.alloc (.cells zC 135)) (And.intro (HA3.out.2.1.alloc (.cells zC 135)) (And.intro (HA3.out.2.2.alloc (.cells zC 135)) (Blk.new (((w.alloc (.cells (wordC k) 135)).alloc (.cells (wordC x) 135)).alloc (.cells zC 135)) 135 zC))))
  simp only [World.size_alloc] at HA4
  have HB := Lib.hid (((((Below.refl w.heap.size w).alloc (Nat.le_refl _) (.cells (wordC k) 135)).alloc (by simp) (.cells (wordC x) 135)).alloc (by simp; omega) (.cells zC 135)).alloc (by simp; omega) (.cells zC 135))
  have HV := Lib.hid (hv.up HB.out)
  clear HA1 HA2 HA3 hv
  generalize hW : (((w.alloc (.cells (wordC k) 135)).alloc (.cells (wordC x) 135)).alloc (.cells zC 135)).alloc (.cells zC 135) = W4 at HA4 HB HV
  go_enter Tryz.func85, Tryz.ntmps85
  go_wp2_with (first
    | (refine wpList_store_row rfl 135 _ _ rfl (w.heap.size + 1 + 1) zC rfl rfl 135 zC HA4.out.2.2.1 (sizeWC _) rfl (bitsC_one _) ?_)
    | (refine wpList_store_row rfl 135 _ _ rfl (w.heap.size + 1 + 1 + 1) zC rfl rfl 135 zC (HA4.out.2.2.2.rowFar (by omega)) (sizeWC _) rfl (bitsC_one _) ?_))
  have HS := Lib.hid (show StpW w ((W4.setRow (w.heap.size + 1 + 1) zC).setRow (w.heap.size + 1 + 1 + 1) zC) g v k x 0 from by
    have e : ∀ f : Nat → Bool, (bitsC fun i => decide (i < 0) && f i) = zC := fun f => bitsC_ext fun i hi => by rw [decide_eq_false (by omega)]; rfl
    refine ⟨below_row (below_row HB.out (by omega) _) (by omega) _, ⟨?_, ?_⟩, (HA4.out.1.rowFar (by omega)).rowFar (by omega), (HA4.out.2.1.rowFar (by omega)).rowFar (by omega), ?_, ?_⟩
    · rw [size_setRow, size_setRow]; exact HV.out.1
    · exact (HV.out.below (below_row (below_row (Below.refl W4.heap.size W4 |>.mono (by have := HB.out.size; omega) : Below w.heap.size W4 W4) (by omega) zC) (by omega) zC) hgl).2
    · rw [e]; exact HA4.out.2.2.1.row.rowFar (by omega)
    · rw [e]; exact (HA4.out.2.2.2.rowFar (by omega)).row)
  clear HA4 HB HV hW hz
  generalize (W4.setRow (w.heap.size + 1 + 1) zC).setRow (w.heap.size + 1 + 1 + 1) zC = W5 at *
  go_loopw [14] (fun iv wr => ∃ n : Nat, n ≤ 32 ∧ iv = .int .i64 (n : Nat) ∧ Hid (StpW w wr g v k x n)) (fun iv _ => 32 - (intOf iv).toNat)
  case atStart => exact ⟨0, by omega, rfl, HS⟩
  case round =>
    clear HS
    obtain ⟨n, hn, rfl, HS⟩ := hrel
    by_cases hlt : n < 32
    · have HCH := Lib.hid (ch_bit v.e v.f v.g n hlt)
      have HMA := Lib.hid (ma_bit v.a v.b v.c n)
      have q0 := HS.out.2.1.bit (j := 0) rfl hlt
      have q1 := HS.out.2.1.bit (j := 1) rfl hlt
      have q2 := HS.out.2.1.bit (j := 2) rfl hlt
      have q4 := HS.out.2.1.bit (j := 4) rfl hlt
      have q5 := HS.out.2.1.bit (j := 5) rfl hlt
      have q6 := HS.out.2.1.bit (j := 6) rfl hlt
      simp only [Nat.reduceMul, Nat.zero_add] at q0 q1 q2 q4 q5 q6
      have hgb := HS.out.2.1.1
      have hgl2 : g ≠ w.heap.size + 1 + 1 := by omega
      have hgl3 : g ≠ w.heap.size + 1 + 1 + 1 := by omega
      have c0 : wr.cell? ⟨w.heap.size + 1 + 1, n, none⟩ = some (.bool (decide (n < n) && (chW v.e v.f v.g).getMsbD n)) := by rw [HS.out.2.2.2.2.1.cell, bitsC_get _ hlt]
      have c1 : wr.cell? ⟨w.heap.size + 1 + 1 + 1, n, none⟩ = some (.bool (decide (n < n) && (maW v.a v.b v.c).getMsbD n)) := by rw [HS.out.2.2.2.2.2.cell, bitsC_get _ hlt]
      have f0 := HS.out.2.2.2.2.1.frozen n
      have f1 := HS.out.2.2.2.2.2.frozen n
      have hn32 : (n : Int) < 32 := by omega
      have HN := Lib.hid (show StpW w ((wr.setCell ⟨w.heap.size + 1 + 1, n, none⟩ (.bool ((chW v.e v.f v.g).getMsbD n))).setCell ⟨w.heap.size + 1 + 1 + 1, n, none⟩ (.bool ((maW v.a v.b v.c).getMsbD n))) g v k x (n + 1) from by
        obtain ⟨k1, k2, k3, k4, k5, k6⟩ := HS.out
        have e : ∀ f : Nat → Bool, (bitsC fun i => if i = n then f n else decide (i < n) && f i) = bitsC fun i => decide (i < n + 1) && f i := fun f => bitsC_ext fun i hi => by
          by_cases h : i = n
          · subst h; simp
          · rw [if_neg h]
            congr 1
            rw [Bool.eq_iff_iff, decide_eq_true_iff, decide_eq_true_iff]; omega
        have hb := (k1.setCell (p := ⟨w.heap.size + 1 + 1, n, none⟩) (by simp; omega) (.bool ((chW v.e v.f v.g).getMsbD n))).setCell (p := ⟨w.heap.size + 1 + 1 + 1, n, none⟩) (by simp; omega) (.bool ((maW v.a v.b v.c).getMsbD n))
        refine ⟨hb, ⟨by simpa using k2.1, ?_⟩, ((k3.far (by simp; omega) _).far (by simp; omega) _), ((k4.far (by simp) _).far (by simp) _), ?_, ?_⟩
        · intro j y hy i u hu
          rw [World.cell?_setCell_other _ _ _ _ (by simp <;> omega), World.cell?_setCell_other _ _ _ _ (by simp <;> omega)]
          exact k2.2 j y hy i u hu
        · have h := k5.set_ n (.bool ((chW v.e v.f v.g).getMsbD n))
          rw [bitsC_set, e] at h
          exact h.far (by simp) _
        · have h := (k6.far (p := ⟨w.heap.size + 1 + 1, n, none⟩) (by simp) (.bool ((chW v.e v.f v.g).getMsbD n))).set_ n (.bool ((maW v.a v.b v.c).getMsbD n))
          rw [bitsC_set, e] at h
          exact h)
      clear HS
      obtain ⟨tc, htc⟩ : ∃ t, (chW v.e v.f v.g).getMsbD n = t := ⟨_, rfl⟩
      obtain ⟨tm, htm⟩ : ∃ t, (maW v.a v.b v.c).getMsbD n = t := ⟨_, rfl⟩
      rw [htc] at HCH HN c0
      rw [htm] at HMA HN c1
      clear htc htm
      generalize v.e.getMsbD n = be at *
      generalize v.f.getMsbD n = bf at *
      generalize v.g.getMsbD n = bg at *
      generalize v.a.getMsbD n = ba at *
      generalize v.b.getMsbD n = bb at *
      generalize v.c.getMsbD n = bc at *
      generalize (decide (n < n) && tc) = o0 at *
      generalize (decide (n < n) && tm) = o1 at *
      go_upto_region 5 with fail
      go_cut [] (fun wc => wc = wr.setCell ⟨w.heap.size + 1 + 1, n, none⟩ (.bool tc))
      case first =>
        have h := HCH.out
        clear HCH HMA HN
        cases be <;> cases bf <;> cases bg <;> (
          simp at h
          subst h
          go_wp2
          go_meet
          exact rfl)
      case rest =>
        subst hcut
        have HN2 := Lib.hid HN.out
        clear HN HCH c0 f0
        have d0 : (wr.setCell ⟨w.heap.size + 1 + 1, n, none⟩ (.bool tc)).cell? ⟨g, n, none⟩ = some (.bool ba) := by rw [World.cell?_setCell_other _ _ _ _ (by simp <;> omega)]; exact q0
        have d1 : (wr.setCell ⟨w.heap.size + 1 + 1, n, none⟩ (.bool tc)).cell? ⟨g, 32 + n, none⟩ = some (.bool bb) := by rw [World.cell?_setCell_other _ _ _ _ (by simp <;> omega)]; exact q1
        have d2 : (wr.setCell ⟨w.heap.size + 1 + 1, n, none⟩ (.bool tc)).cell? ⟨g, 64 + n, none⟩ = some (.bool bc) := by rw [World.cell?_setCell_other _ _ _ _ (by simp <;> omega)]; exact q2
        have h := HMA.out
        clear HMA q0 q1 q2 q4 q5 q6
        cases ba <;> cases bb <;> cases bc <;> (
          simp at h
          subst h
          go_wp2
          go_roundw
          case rel => exact ⟨n + 1, by omega, by go_num, HN2⟩
          case measure => simp [intOf]; omega)
    · obtain rfl : n = 32 := by omega
      rw [show ((32 : Nat) : Int) = 32 from rfl]
      obtain ⟨k1, k2, k3, k4, k5, k6⟩ := HS.out
      have e : ∀ f : Nat → Bool, (bitsC fun i => decide (i < 32) && f i) = bitsC f := fun f => bitsC_ext fun i hi => by rw [decide_eq_true hi]; rfl
      rw [e] at k5 k6
      clear e HS
      have K5 : Blk wr (w.heap.size + 1 + 1) 135 (wordC (chW v.e v.f v.g)) := k5
      have K6 : Blk wr (w.heap.size + 1 + 1 + 1) 135 (wordC (maW v.a v.b v.c)) := k6
      clear k5 k6
      have r0 := k2.2 0 v.a rfl
      have r1 := k2.2 1 v.b rfl
      have r2 := k2.2 2 v.c rfl
      have r3 := k2.2 3 v.d rfl
      have r4 := k2.2 4 v.e rfl
      have r5 := k2.2 5 v.f rfl
      have r6 := k2.2 6 v.g rfl
      have r7 := k2.2 7 v.h rfl
      simp only [Nat.reduceMul] at r0 r1 r2 r3 r4 r5 r6 r7
      have s4 := k3.wrange
      have s5 := k4.wrange
      have s7 := K5.wrange
      have s8 := K6.wrange
      have hz := zC_lit
      have hur := Tryz.underlying135
      have hsa := wl_size v.a
      have hsb := wl_size v.b
      have hsc := wl_size v.c
      have hsd := wl_size v.d
      have hse := wl_size v.e
      have hsf := wl_size v.f
      have hsg := wl_size v.g
      have hsh := wl_size v.h
      have hsk := wl_size k
      have hsx := wl_size x
      have hsC := wl_size (chW v.e v.f v.g)
      have hsM := wl_size (maW v.a v.b v.c)
      have hgw : g < wr.heap.size := k2.1
      have hw3 : w.heap.size + 1 + 1 + 1 < wr.heap.size := K6.lt
      go_upto_region 8 with fail
      go_cut [10] (fun v10 wc => ∃ b, v10 = .pointer (some ⟨b, 0, none⟩) ∧ wr.heap.size ≤ b ∧ Hid (Blk wc b 135 (wordC (v.h + sC v.e + chW v.e v.f v.g + k + x))) ∧ Hid (Below wr.heap.size wr wc))
      case first =>
        refine region_growP (by kernel_rfl) [some 89, some 90, some 91, some 92, some 93, some 94, some 95, some 96, some 97, some 98, some 99, some 100, some 10, none]
          [eqP (.slice (some ⟨g, 0, none⟩) 8 cv), eqP (.pointer (some ⟨g, 224, none⟩)), eqP (.agg (wl v.h).toArray), eqP (.slice (some ⟨g, 0, none⟩) 8 cv), eqP (.pointer (some ⟨g, 128, none⟩)), eqP (.agg (wl v.e).toArray), eqP (.agg (wl (sC v.e)).toArray), eqP (.agg (wl (chW v.e v.f v.g)).toArray), eqP (.agg (wl k).toArray), eqP (.agg (wl x).toArray), blkP wr.heap.size (slcB 5) 135 (wsC [v.h, sC v.e, chW v.e v.f v.g, k, x]), eqP (.agg (wl (v.h + sC v.e + chW v.e v.f v.g + k + x)).toArray), blkP wr.heap.size ptrB 135 zC] ?_ rfl (by kernel_rfl) (by simp) ?_ (by simp) ?_ ?_
        · simp [ApartD]
        · intro i j h1 h2 h3
          have : i = 13 := by simp at h1 h2; omega
          subst this
          clear h1 h2
          revert j
          decide +kernel
        · intro i hi xs W hb hd
          have hbz := hb.size
          match i, hi with
          | 0, _ =>
            refine wpOp_step rfl (fun K hK => ?_)
            simp only [putF, Act.put, List.setIfInBounds_toArray, List.set_cons_succ, List.set_cons_zero, List.getD_cons_succ, List.getD_cons_zero, Nat.reduceAdd]
            go_simp
            refine hK _ _ ⟨(.slice (some ⟨g, 0, none⟩) 8 cv), ?_, Below.refl _ _, rfl⟩
            simp only [putF, Act.put, List.setIfInBounds_toArray, List.set_cons_succ, List.set_cons_zero, List.getD_cons_succ, List.getD_cons_zero, Nat.reduceAdd]
          | 1, _ =>
            have e0 : xs 0 = (.slice (some ⟨g, 0, none⟩) 8 cv) := hd 0 (by simp) (by kernel_rfl)
            refine wpOp_step rfl (fun K hK => ?_)
            simp only [putF, Act.put, List.setIfInBounds_toArray, List.set_cons_succ, List.set_cons_zero, List.getD_cons_succ, List.getD_cons_zero, Nat.reduceAdd]
            go_simp
            refine hK _ _ ⟨(.pointer (some ⟨g, 224, none⟩)), ?_, Below.refl _ _, rfl⟩
            simp only [putF, Act.put, List.setIfInBounds_toArray, List.set_cons_succ, List.set_cons_zero, List.getD_cons_succ, List.getD_cons_zero, Nat.reduceAdd, e0]
          | 2, _ =>
            have e1 : xs 1 = (.pointer (some ⟨g, 224, none⟩)) := hd 1 (by simp) (by kernel_rfl)
            exact row_step rfl rfl rfl _ _ rfl g 224 (by simp only [putF, Act.put, List.setIfInBounds_toArray, List.set_cons_succ, List.set_cons_zero, List.getD_cons_succ, List.getD_cons_zero, Nat.reduceAdd]; exact e1) (wl v.h) _ (range_below r7 hb hgw) hur rfl hsh rfl
          | 3, _ =>
            refine wpOp_step rfl (fun K hK => ?_)
            simp only [putF, Act.put, List.setIfInBounds_toArray, List.set_cons_succ, List.set_cons_zero, List.getD_cons_succ, List.getD_cons_zero, Nat.reduceAdd]
            go_simp
            refine hK _ _ ⟨(.slice (some ⟨g, 0, none⟩) 8 cv), ?_, Below.refl _ _, rfl⟩
            simp only [putF, Act.put, List.setIfInBounds_toArray, List.set_cons_succ, List.set_cons_zero, List.getD_cons_succ, List.getD_cons_zero, Nat.reduceAdd]
          | 4, _ =>
            have e3 : xs 3 = (.slice (some ⟨g, 0, none⟩) 8 cv) := hd 3 (by simp) (by kernel_rfl)
            refine wpOp_step rfl (fun K hK => ?_)
            simp only [putF, Act.put, List.setIfInBounds_toArray, List.set_cons_succ, List.set_cons_zero, List.getD_cons_succ, List.getD_cons_zero, Nat.reduceAdd]
            go_simp
            refine hK _ _ ⟨(.pointer (some ⟨g, 128, none⟩)), ?_, Below.refl _ _, rfl⟩
            simp only [putF, Act.put, List.setIfInBounds_toArray, List.set_cons_succ, List.set_cons_zero, List.getD_cons_succ, List.getD_cons_zero, Nat.reduceAdd, e3]
          | 5, _ =>
            have e4 : xs 4 = (.pointer (some ⟨g, 128, none⟩)) := hd 4 (by simp) (by kernel_rfl)
            exact row_step rfl rfl rfl _ _ rfl g 128 (by simp only [putF, Act.put, List.setIfInBounds_toArray, List.set_cons_succ, List.set_cons_zero, List.getD_cons_succ, List.getD_cons_zero, Nat.reduceAdd]; exact e4) (wl v.e) _ (range_below r4 hb hgw) hur rfl hse rfl
          | 6, _ =>
            have e5 : xs 5 = (.agg (wl v.e).toArray) := hd 5 (by simp) (by kernel_rfl)
            refine wpOp_step rfl (fun K hK => ?_)
            simp only [putF, Act.put, List.setIfInBounds_toArray, List.set_cons_succ, List.set_cons_zero, List.getD_cons_succ, List.getD_cons_zero, Nat.reduceAdd]
            go_simp
            refine (turns_C' v.e _).mono ?_
            rintro e w1 ⟨rfl, hb1⟩
            go_simp
            refine hK _ _ ⟨(.agg (wl (sC v.e)).toArray), ?_, hb1, rfl⟩
            simp only [putF, Act.put, List.setIfInBounds_toArray, List.set_cons_succ, List.set_cons_zero, List.getD_cons_succ, List.getD_cons_zero, Nat.reduceAdd, e5]
          | 7, _ =>
            exact row_step rfl rfl rfl _ _ rfl (w.heap.size + 1 + 1) 0 (by simp only [putF, Act.put, List.setIfInBounds_toArray, List.set_cons_succ, List.set_cons_zero, List.getD_cons_succ, List.getD_cons_zero, Nat.reduceAdd]; exact rfl) (wl (chW v.e v.f v.g)) _ (range_below s7 hb (by omega)) hur rfl hsC rfl
          | 8, _ =>
            exact row_step rfl rfl rfl _ _ rfl w.heap.size 0 (by simp only [putF, Act.put, List.setIfInBounds_toArray, List.set_cons_succ, List.set_cons_zero, List.getD_cons_succ, List.getD_cons_zero, Nat.reduceAdd]; exact rfl) (wl k) _ (range_below s4 hb (by omega)) hur rfl hsk rfl
          | 9, _ =>
            exact row_step rfl rfl rfl _ _ rfl (w.heap.size + 1) 0 (by simp only [putF, Act.put, List.setIfInBounds_toArray, List.set_cons_succ, List.set_cons_zero, List.getD_cons_succ, List.getD_cons_zero, Nat.reduceAdd]; exact rfl) (wl x) _ (range_below s5 hb (by omega)) hur rfl hsx rfl
          | 10, _ =>
            have e2 : xs 2 = (.agg (wl v.h).toArray) := hd 2 (by simp) (by kernel_rfl)
            have e6 : xs 6 = (.agg (wl (sC v.e)).toArray) := hd 6 (by simp) (by kernel_rfl)
            have e7 : xs 7 = (.agg (wl (chW v.e v.f v.g)).toArray) := hd 7 (by simp) (by kernel_rfl)
            have e8 : xs 8 = (.agg (wl k).toArray) := hd 8 (by simp) (by kernel_rfl)
            have e9 : xs 9 = (.agg (wl x).toArray) := hd 9 (by simp) (by kernel_rfl)
            exact build_step rfl rfl rfl _ _ _ rfl #[(0, (.agg (wl v.h).toArray)), (1, (.agg (wl (sC v.e)).toArray)), (2, (.agg (wl (chW v.e v.f v.g)).toArray)), (3, (.agg (wl k).toArray)), (4, (.agg (wl x).toArray))] (by simp only [putF, Act.put, List.setIfInBounds_toArray, List.set_cons_succ, List.set_cons_zero, List.getD_cons_succ, List.getD_cons_zero, Nat.reduceAdd]; go_simp) (slcB 5 W.heap.size) (build_ws W [v.h, sC v.e, chW v.e v.f v.g, k, x] (by simp) (by simp) #[(0, (.agg (wl v.h).toArray)), (1, (.agg (wl (sC v.e)).toArray)), (2, (.agg (wl (chW v.e v.f v.g)).toArray)), (3, (.agg (wl k).toArray)), (4, (.agg (wl x).toArray))] rfl) ((Below.refl _ _).alloc (Nat.le_refl _) _) ⟨_, rfl, hbz, Blk.new _ _ _⟩
          | 11, _ =>
            obtain ⟨k10, e10, hB10, hk10⟩ := hd 10 (by simp) (by kernel_rfl)
            simp only [slcB] at e10
            refine wpOp_step rfl (fun K hK => ?_)
            simp only [putF, Act.put, List.setIfInBounds_toArray, List.set_cons_succ, List.set_cons_zero, List.getD_cons_succ, List.getD_cons_zero, Nat.reduceAdd]
            go_simp
            refine (dadd_five _ _ _ _ _ _ _ hk10).mono ?_
            rintro e w1 ⟨rfl, hb1⟩
            go_simp
            refine hK _ _ ⟨(.agg (wl (v.h + sC v.e + chW v.e v.f v.g + k + x)).toArray), ?_, hb1, rfl⟩
            simp only [putF, Act.put, List.setIfInBounds_toArray, List.set_cons_succ, List.set_cons_zero, List.getD_cons_succ, List.getD_cons_zero, Nat.reduceAdd, e10]
          | 12, _ =>
            refine wpOp_step rfl (fun K hK => ?_)
            simp only [putF, Act.put, List.setIfInBounds_toArray, List.set_cons_succ, List.set_cons_zero, List.getD_cons_succ, List.getD_cons_zero, Nat.reduceAdd]
            go_simp
            refine hK _ _ ⟨ptrB W.heap.size, ?_, (Below.refl _ _).alloc (Nat.le_refl _) _, ⟨_, rfl, hbz, Blk.new _ _ _⟩⟩
            simp only [putF, Act.put, List.setIfInBounds_toArray, List.set_cons_succ, List.set_cons_zero, List.getD_cons_succ, List.getD_cons_zero, Nat.reduceAdd, ptrB]
          | n + 13, h => exact absurd h (by simp)
        · intro xs W hb hg
          rw [if_neg (by simp)]
          have e11 : xs 11 = (.agg (wl (v.h + sC v.e + chW v.e v.f v.g + k + x)).toArray) := hg 11 (by simp)
          obtain ⟨b, e12, hB, hk⟩ := hg 12 (by simp)
          simp only [ptrB] at e12
          refine row_store rfl rfl rfl _ _ _ rfl b 0 (by simp only [putF, Act.put, List.setIfInBounds_toArray, List.set_cons_succ, List.set_cons_zero, List.getD_cons_succ, List.getD_cons_zero, Nat.reduceAdd]; exact e12) (wl (v.h + sC v.e + chW v.e v.f v.g + k + x)) (by simp only [putF, Act.put, List.setIfInBounds_toArray, List.set_cons_succ, List.set_cons_zero, List.getD_cons_succ, List.getD_cons_zero, Nat.reduceAdd]; exact e11) (by rw [wl_len]; exact there_blk hk) (wl_size _) (wl_one _) ?_
          have HK := Lib.hid (blk_set hk (by simp [zC]) (v.h + sC v.e + chW v.e v.f v.g + k + x))
          have HBC := Lib.hid (below_cells hB (wl (v.h + sC v.e + chW v.e v.f v.g + k + x)) 0 hb)
          simp only [putF, Act.put, List.setIfInBounds_toArray, List.set_cons_succ, List.set_cons_zero, List.getD_cons_succ, List.getD_cons_zero, Nat.reduceAdd, e12]
          go_wp2
          go_meet
          exact ⟨b, rfl, hB, HK, HBC⟩
      case rest =>
        obtain ⟨b10, rfl, hb10, HT, HBT⟩ := hcut
        have q0 := range_below r0 HBT.out hgw
        have q1 := range_below r1 HBT.out hgw
        have q2 := range_below r2 HBT.out hgw
        have q3 := range_below r3 HBT.out hgw
        have q4 := range_below r4 HBT.out hgw
        have q5 := range_below r5 HBT.out hgw
        have q6 := range_below r6 HBT.out hgw
        have p8 := range_below s8 HBT.out hw3
        have pT := HT.out.wrange
        have hzc := HBT.out.size
        have hTl := HT.out.lt
        have HB1 := Lib.hid (k1.trans (HBT.out.mono k1.size))
        have hw1 := k1.size
        clear r0 r1 r2 r3 r4 r5 r6 r7 s4 s5 s7 s8 HBT k1 k2 k3 k4 K5 K6 HT
        obtain ⟨we, rfl⟩ : ∃ we : World, we = wc := ⟨_, rfl⟩
        go_upto_region 9 with fail
        go_cut [11] (fun v11 wd => ∃ b, v11 = .pointer (some ⟨b, 0, none⟩) ∧ we.heap.size ≤ b ∧ Hid (Blk wd b 135 (wordC (sD v.a + maW v.a v.b v.c))) ∧ Hid (Below we.heap.size we wd))
        case first =>
          refine region_growP (by kernel_rfl) [some 101, some 102, some 103, some 104, some 105, some 106, some 107, some 11, none]
            [eqP (.slice (some ⟨g, 0, none⟩) 8 cv), eqP (.pointer (some ⟨g, 0, none⟩)), eqP (.agg (wl v.a).toArray), eqP (.agg (wl (sD v.a)).toArray), eqP (.agg (wl (maW v.a v.b v.c)).toArray), blkP we.heap.size (slcB 2) 135 (wsC [sD v.a, (maW v.a v.b v.c)]), eqP (.agg (wl (sD v.a + maW v.a v.b v.c)).toArray), blkP we.heap.size ptrB 135 zC] ?_ rfl (by kernel_rfl) (by simp) ?_ (by simp) ?_ ?_
          · simp [ApartD]
          · intro i j h1 h2 h3
            have : i = 8 := by simp at h1 h2; omega
            subst this
            clear h1 h2
            revert j
            decide +kernel
          · intro i hi xs W hb hd
            have hbz := hb.size
            match i, hi with
            | 0, _ =>
              refine wpOp_step rfl (fun K hK => ?_)
              simp only [putF, Act.put, List.setIfInBounds_toArray, List.set_cons_succ, List.set_cons_zero, List.getD_cons_succ, List.getD_cons_zero, Nat.reduceAdd]
              go_simp
              refine hK _ _ ⟨(.slice (some ⟨g, 0, none⟩) 8 cv), ?_, Below.refl _ _, rfl⟩
              simp only [putF, Act.put, List.setIfInBounds_toArray, List.set_cons_succ, List.set_cons_zero, List.getD_cons_succ, List.getD_cons_zero, Nat.reduceAdd]
            | 1, _ =>
              have e0 : xs 0 = (.slice (some ⟨g, 0, none⟩) 8 cv) := hd 0 (by simp) (by kernel_rfl)
              refine wpOp_step rfl (fun K hK => ?_)
              simp only [putF, Act.put, List.setIfInBounds_toArray, List.set_cons_succ, List.set_cons_zero, List.getD_cons_succ, List.getD_cons_zero, Nat.reduceAdd]
              go_simp
              refine hK _ _ ⟨(.pointer (some ⟨g, 0, none⟩)), ?_, Below.refl _ _, rfl⟩
              simp only [putF, Act.put, List.setIfInBounds_toArray, List.set_cons_succ, List.set_cons_zero, List.getD_cons_succ, List.getD_cons_zero, Nat.reduceAdd, e0]
            | 2, _ =>
              have e1 : xs 1 = (.pointer (some ⟨g, 0, none⟩)) := hd 1 (by simp) (by kernel_rfl)
              exact row_step rfl rfl rfl _ _ rfl g 0 (by simp only [putF, Act.put, List.setIfInBounds_toArray, List.set_cons_succ, List.set_cons_zero, List.getD_cons_succ, List.getD_cons_zero, Nat.reduceAdd]; exact e1) (wl v.a) _ (range_below q0 hb (by omega)) hur rfl hsa rfl
            | 3, _ =>
              have e2 : xs 2 = (.agg (wl v.a).toArray) := hd 2 (by simp) (by kernel_rfl)
              refine wpOp_step rfl (fun K hK => ?_)
              simp only [putF, Act.put, List.setIfInBounds_toArray, List.set_cons_succ, List.set_cons_zero, List.getD_cons_succ, List.getD_cons_zero, Nat.reduceAdd]
              go_simp
              refine (turns_D' v.a _).mono ?_
              rintro e w1 ⟨rfl, hb1⟩
              go_simp
              refine hK _ _ ⟨(.agg (wl (sD v.a)).toArray), ?_, hb1, rfl⟩
              simp only [putF, Act.put, List.setIfInBounds_toArray, List.set_cons_succ, List.set_cons_zero, List.getD_cons_succ, List.getD_cons_zero, Nat.reduceAdd, e2]
            | 4, _ =>
              exact row_step rfl rfl rfl _ _ rfl (w.heap.size + 1 + 1 + 1) 0 (by simp only [putF, Act.put, List.setIfInBounds_toArray, List.set_cons_succ, List.set_cons_zero, List.getD_cons_succ, List.getD_cons_zero, Nat.reduceAdd]; exact rfl) (wl (maW v.a v.b v.c)) _ (range_below p8 hb (by omega)) hur rfl hsM rfl
            | 5, _ =>
              have e3 : xs 3 = (.agg (wl (sD v.a)).toArray) := hd 3 (by simp) (by kernel_rfl)
              have e4 : xs 4 = (.agg (wl (maW v.a v.b v.c)).toArray) := hd 4 (by simp) (by kernel_rfl)
              exact build_step rfl rfl rfl _ _ _ rfl #[(0, (.agg (wl (sD v.a)).toArray)), (1, (.agg (wl (maW v.a v.b v.c)).toArray))] (by simp only [putF, Act.put, List.setIfInBounds_toArray, List.set_cons_succ, List.set_cons_zero, List.getD_cons_succ, List.getD_cons_zero, Nat.reduceAdd]; go_simp) (slcB 2 W.heap.size) (build_ws W [sD v.a, (maW v.a v.b v.c)] (by simp) (by simp) #[(0, (.agg (wl (sD v.a)).toArray)), (1, (.agg (wl (maW v.a v.b v.c)).toArray))] rfl) ((Below.refl _ _).alloc (Nat.le_refl _) _) ⟨_, rfl, hbz, Blk.new _ _ _⟩
            | 6, _ =>
              obtain ⟨k5, e5, hB5, hk5⟩ := hd 5 (by simp) (by kernel_rfl)
              simp only [slcB] at e5
              refine wpOp_step rfl (fun K hK => ?_)
              simp only [putF, Act.put, List.setIfInBounds_toArray, List.set_cons_succ, List.set_cons_zero, List.getD_cons_succ, List.getD_cons_zero, Nat.reduceAdd]
              go_simp
              refine (dadd_two _ _ _ _ hk5).mono ?_
              rintro e w1 ⟨rfl, hb1⟩
              go_simp
              refine hK _ _ ⟨(.agg (wl (sD v.a + maW v.a v.b v.c)).toArray), ?_, hb1, rfl⟩
              simp only [putF, Act.put, List.setIfInBounds_toArray, List.set_cons_succ, List.set_cons_zero, List.getD_cons_succ, List.getD_cons_zero, Nat.reduceAdd, e5]
            | 7, _ =>
              refine wpOp_step rfl (fun K hK => ?_)
              simp only [putF, Act.put, List.setIfInBounds_toArray, List.set_cons_succ, List.set_cons_zero, List.getD_cons_succ, List.getD_cons_zero, Nat.reduceAdd]
              go_simp
              refine hK _ _ ⟨ptrB W.heap.size, ?_, (Below.refl _ _).alloc (Nat.le_refl _) _, ⟨_, rfl, hbz, Blk.new _ _ _⟩⟩
              simp only [putF, Act.put, List.setIfInBounds_toArray, List.set_cons_succ, List.set_cons_zero, List.getD_cons_succ, List.getD_cons_zero, Nat.reduceAdd, ptrB]
            | n + 8, h => exact absurd h (by simp)
          · intro xs W hb hg
            rw [if_neg (by simp)]
            have e6 : xs 6 = (.agg (wl (sD v.a + maW v.a v.b v.c)).toArray) := hg 6 (by simp)
            obtain ⟨b, e7, hB, hk⟩ := hg 7 (by simp)
            simp only [ptrB] at e7
            refine row_store rfl rfl rfl _ _ _ rfl b 0 (by simp only [putF, Act.put, List.setIfInBounds_toArray, List.set_cons_succ, List.set_cons_zero, List.getD_cons_succ, List.getD_cons_zero, Nat.reduceAdd]; exact e7) (wl (sD v.a + maW v.a v.b v.c)) (by simp only [putF, Act.put, List.setIfInBounds_toArray, List.set_cons_succ, List.set_cons_zero, List.getD_cons_succ, List.getD_cons_zero, Nat.reduceAdd]; exact e6) (by rw [wl_len]; exact there_blk hk) (wl_size _) (wl_one _) ?_
            have HK := Lib.hid (blk_set hk (by simp [zC]) (sD v.a + maW v.a v.b v.c))
            have HBC := Lib.hid (below_cells hB (wl (sD v.a + maW v.a v.b v.c)) 0 hb)
            simp only [putF, Act.put, List.setIfInBounds_toArray, List.set_cons_succ, List.set_cons_zero, List.getD_cons_succ, List.getD_cons_zero, Nat.reduceAdd, e7]
            go_wp2
            go_meet
            exact ⟨b, rfl, hB, HK, HBC⟩
        case rest =>
          obtain ⟨b11, rfl, hb11, HU, HBU⟩ := hcut
          have m0 := range_below q0 HBU.out (by omega)
          have m1 := range_below q1 HBU.out (by omega)
          have m2 := range_below q2 HBU.out (by omega)
          have m3 := range_below q3 HBU.out (by omega)
          have m4 := range_below q4 HBU.out (by omega)
          have m5 := range_below q5 HBU.out (by omega)
          have m6 := range_below q6 HBU.out (by omega)
          have mT := range_below pT HBU.out (by omega)
          have mU := HU.out.wrange
          have hsT := wl_size (v.h + sC v.e + chW v.e v.f v.g + k + x)
          have hsU := wl_size (sD v.a + maW v.a v.b v.c)
          have hzd := HBU.out.size
          have hUl := HU.out.lt
          have HB2 := Lib.hid (HB1.out.trans (HBU.out.mono (by omega)))
          clear q0 q1 q2 q3 q4 q5 q6 p8 pT HBU HU HB1
          go_upto_region 10 with fail
          refine region_growP (by kernel_rfl) [some 108, some 109, some 110, some 111, some 112, some 113, some 114, some 115, some 116, some 117, some 118, some 119, some 120, some 121, some 122, some 123, some 124, some 125, some 126, some 127, some 128, some 129, some 130, some 131, some 132, some 133, some 134, some 135, some 136, some 6]
            [eqP (.agg (wl (v.h + sC v.e + chW v.e v.f v.g + k + x)).toArray), eqP (.agg (wl (sD v.a + maW v.a v.b v.c)).toArray), blkP wc.heap.size (slcB 2) 135 (wsC [(v.h + sC v.e + chW v.e v.f v.g + k + x), (sD v.a + maW v.a v.b v.c)]), eqP (.agg (wl ((v.h + sC v.e + chW v.e v.f v.g + k + x) + (sD v.a + maW v.a v.b v.c))).toArray), eqP (.slice (some ⟨g, 0, none⟩) 8 cv), eqP (.pointer (some ⟨g, 0, none⟩)), eqP (.agg (wl v.a).toArray), eqP (.slice (some ⟨g, 0, none⟩) 8 cv), eqP (.pointer (some ⟨g, 32, none⟩)), eqP (.agg (wl v.b).toArray), eqP (.slice (some ⟨g, 0, none⟩) 8 cv), eqP (.pointer (some ⟨g, 64, none⟩)), eqP (.agg (wl v.c).toArray), eqP (.slice (some ⟨g, 0, none⟩) 8 cv), eqP (.pointer (some ⟨g, 96, none⟩)), eqP (.agg (wl v.d).toArray), eqP (.agg (wl (v.h + sC v.e + chW v.e v.f v.g + k + x)).toArray), blkP wc.heap.size (slcB 2) 135 (wsC [v.d, (v.h + sC v.e + chW v.e v.f v.g + k + x)]), eqP (.agg (wl (v.d + (v.h + sC v.e + chW v.e v.f v.g + k + x))).toArray), eqP (.slice (some ⟨g, 0, none⟩) 8 cv), eqP (.pointer (some ⟨g, 128, none⟩)), eqP (.agg (wl v.e).toArray), eqP (.slice (some ⟨g, 0, none⟩) 8 cv), eqP (.pointer (some ⟨g, 160, none⟩)), eqP (.agg (wl v.f).toArray), eqP (.slice (some ⟨g, 0, none⟩) 8 cv), eqP (.pointer (some ⟨g, 192, none⟩)), eqP (.agg (wl v.g).toArray), blkP wc.heap.size (slcB 8) 135 (wsC [((v.h + sC v.e + chW v.e v.f v.g + k + x) + (sD v.a + maW v.a v.b v.c)), v.a, v.b, v.c, (v.d + (v.h + sC v.e + chW v.e v.f v.g + k + x)), v.e, v.f, v.g]), blkP wc.heap.size (slcB 8) 135 (wsC [((v.h + sC v.e + chW v.e v.f v.g + k + x) + (sD v.a + maW v.a v.b v.c)), v.a, v.b, v.c, (v.d + (v.h + sC v.e + chW v.e v.f v.g + k + x)), v.e, v.f, v.g])] ?_ rfl (by kernel_rfl) (by simp) ?_ (by simp) ?_ ?_
          · simp [ApartD]
          · intro i j h1 h2 h3
            simp at h1 h2; omega
          · intro i hi xs W hb hd
            have hbz := hb.size
            match i, hi with
            | 0, _ =>
              exact row_step rfl rfl rfl _ _ rfl b10 0 (by simp only [putF, Act.put, List.setIfInBounds_toArray, List.set_cons_succ, List.set_cons_zero, List.getD_cons_succ, List.getD_cons_zero, Nat.reduceAdd]; exact rfl) (wl (v.h + sC v.e + chW v.e v.f v.g + k + x)) _ (range_below mT hb (by omega)) hur rfl hsT rfl
            | 1, _ =>
              exact row_step rfl rfl rfl _ _ rfl b11 0 (by simp only [putF, Act.put, List.setIfInBounds_toArray, List.set_cons_succ, List.set_cons_zero, List.getD_cons_succ, List.getD_cons_zero, Nat.reduceAdd]; exact rfl) (wl (sD v.a + maW v.a v.b v.c)) _ (range_below mU hb (by omega)) hur rfl hsU rfl
            | 2, _ =>
              have e0 : xs 0 = (.agg (wl (v.h + sC v.e + chW v.e v.f v.g + k + x)).toArray) := hd 0 (by simp) (by kernel_rfl)
              have e1 : xs 1 = (.agg (wl (sD v.a + maW v.a v.b v.c)).toArray) := hd 1 (by simp) (by kernel_rfl)
              exact build_step rfl rfl rfl _ _ _ rfl #[(0, (.agg (wl (v.h + sC v.e + chW v.e v.f v.g + k + x)).toArray)), (1, (.agg (wl (sD v.a + maW v.a v.b v.c)).toArray))] (by simp only [putF, Act.put, List.setIfInBounds_toArray, List.set_cons_succ, List.set_cons_zero, List.getD_cons_succ, List.getD_cons_zero, Nat.reduceAdd]; go_simp) (slcB 2 W.heap.size) (build_ws W [(v.h + sC v.e + chW v.e v.f v.g + k + x), (sD v.a + maW v.a v.b v.c)] (by simp) (by simp) #[(0, (.agg (wl (v.h + sC v.e + chW v.e v.f v.g + k + x)).toArray)), (1, (.agg (wl (sD v.a + maW v.a v.b v.c)).toArray))] rfl) ((Below.refl _ _).alloc (Nat.le_refl _) _) ⟨_, rfl, hbz, Blk.new _ _ _⟩
            | 3, _ =>
              obtain ⟨k2, e2, hB2, hk2⟩ := hd 2 (by simp) (by kernel_rfl)
              simp only [slcB] at e2
              refine wpOp_step rfl (fun K hK => ?_)
              simp only [putF, Act.put, List.setIfInBounds_toArray, List.set_cons_succ, List.set_cons_zero, List.getD_cons_succ, List.getD_cons_zero, Nat.reduceAdd]
              go_simp
              refine (dadd_two _ _ _ _ hk2).mono ?_
              rintro e w1 ⟨rfl, hb1⟩
              go_simp
              refine hK _ _ ⟨(.agg (wl ((v.h + sC v.e + chW v.e v.f v.g + k + x) + (sD v.a + maW v.a v.b v.c))).toArray), ?_, hb1, rfl⟩
              simp only [putF, Act.put, List.setIfInBounds_toArray, List.set_cons_succ, List.set_cons_zero, List.getD_cons_succ, List.getD_cons_zero, Nat.reduceAdd, e2]
            | 4, _ =>
              refine wpOp_step rfl (fun K hK => ?_)
              simp only [putF, Act.put, List.setIfInBounds_toArray, List.set_cons_succ, List.set_cons_zero, List.getD_cons_succ, List.getD_cons_zero, Nat.reduceAdd]
              go_simp
              refine hK _ _ ⟨(.slice (some ⟨g, 0, none⟩) 8 cv), ?_, Below.refl _ _, rfl⟩
              simp only [putF, Act.put, List.setIfInBounds_toArray, List.set_cons_succ, List.set_cons_zero, List.getD_cons_succ, List.getD_cons_zero, Nat.reduceAdd]
            | 5, _ =>
              have e4 : xs 4 = (.slice (some ⟨g, 0, none⟩) 8 cv) := hd 4 (by simp) (by kernel_rfl)
              refine wpOp_step rfl (fun K hK => ?_)
              simp only [putF, Act.put, List.setIfInBounds_toArray, List.set_cons_succ, List.set_cons_zero, List.getD_cons_succ, List.getD_cons_zero, Nat.reduceAdd]
              go_simp
              refine hK _ _ ⟨(.pointer (some ⟨g, 0, none⟩)), ?_, Below.refl _ _, rfl⟩
              simp only [putF, Act.put, List.setIfInBounds_toArray, List.set_cons_succ, List.set_cons_zero, List.getD_cons_succ, List.getD_cons_zero, Nat.reduceAdd, e4]
            | 6, _ =>
              have e5 : xs 5 = (.pointer (some ⟨g, 0, none⟩)) := hd 5 (by simp) (by kernel_rfl)
              exact row_step rfl rfl rfl _ _ rfl g 0 (by simp only [putF, Act.put, List.setIfInBounds_toArray, List.set_cons_succ, List.set_cons_zero, List.getD_cons_succ, List.getD_cons_zero, Nat.reduceAdd]; exact e5) (wl v.a) _ (range_below m0 hb (by omega)) hur rfl hsa rfl
            | 7, _ =>
              refine wpOp_step rfl (fun K hK => ?_)
              simp only [putF, Act.put, List.setIfInBounds_toArray, List.set_cons_succ, List.set_cons_zero, List.getD_cons_succ, List.getD_cons_zero, Nat.reduceAdd]
              go_simp
              refine hK _ _ ⟨(.slice (some ⟨g, 0, none⟩) 8 cv), ?_, Below.refl _ _, rfl⟩
              simp only [putF, Act.put, List.setIfInBounds_toArray, List.set_cons_succ, List.set_cons_zero, List.getD_cons_succ, List.getD_cons_zero, Nat.reduceAdd]
            | 8, _ =>
              have e7 : xs 7 = (.slice (some ⟨g, 0, none⟩) 8 cv) := hd 7 (by simp) (by kernel_rfl)
              refine wpOp_step rfl (fun K hK => ?_)
              simp only [putF, Act.put, List.setIfInBounds_toArray, List.set_cons_succ, List.set_cons_zero, List.getD_cons_succ, List.getD_cons_zero, Nat.reduceAdd]
              go_simp
              refine hK _ _ ⟨(.pointer (some ⟨g, 32, none⟩)), ?_, Below.refl _ _, rfl⟩
              simp only [putF, Act.put, List.setIfInBounds_toArray, List.set_cons_succ, List.set_cons_zero, List.getD_cons_succ, List.getD_cons_zero, Nat.reduceAdd, e7]
            | 9, _ =>
              have e8 : xs 8 = (.pointer (some ⟨g, 32, none⟩)) := hd 8 (by simp) (by kernel_rfl)
              exact row_step rfl rfl rfl _ _ rfl g 32 (by simp only [putF, Act.put, List.setIfInBounds_toArray, List.set_cons_succ, List.set_cons_zero, List.getD_cons_succ, List.getD_cons_zero, Nat.reduceAdd]; exact e8) (wl v.b) _ (range_below m1 hb (by omega)) hur rfl hsb rfl
            | 10, _ =>
              refine wpOp_step rfl (fun K hK => ?_)
              simp only [putF, Act.put, List.setIfInBounds_toArray, List.set_cons_succ, List.set_cons_zero, List.getD_cons_succ, List.getD_cons_zero, Nat.reduceAdd]
              go_simp
              refine hK _ _ ⟨(.slice (some ⟨g, 0, none⟩) 8 cv), ?_, Below.refl _ _, rfl⟩
              simp only [putF, Act.put, List.setIfInBounds_toArray, List.set_cons_succ, List.set_cons_zero, List.getD_cons_succ, List.getD_cons_zero, Nat.reduceAdd]
            | 11, _ =>
              have e10 : xs 10 = (.slice (some ⟨g, 0, none⟩) 8 cv) := hd 10 (by simp) (by kernel_rfl)
              refine wpOp_step rfl (fun K hK => ?_)
              simp only [putF, Act.put, List.setIfInBounds_toArray, List.set_cons_succ, List.set_cons_zero, List.getD_cons_succ, List.getD_cons_zero, Nat.reduceAdd]
              go_simp
              refine hK _ _ ⟨(.pointer (some ⟨g, 64, none⟩)), ?_, Below.refl _ _, rfl⟩
              simp only [putF, Act.put, List.setIfInBounds_toArray, List.set_cons_succ, List.set_cons_zero, List.getD_cons_succ, List.getD_cons_zero, Nat.reduceAdd, e10]
            | 12, _ =>
              have e11 : xs 11 = (.pointer (some ⟨g, 64, none⟩)) := hd 11 (by simp) (by kernel_rfl)
              exact row_step rfl rfl rfl _ _ rfl g 64 (by simp only [putF, Act.put, List.setIfInBounds_toArray, List.set_cons_succ, List.set_cons_zero, List.getD_cons_succ, List.getD_cons_zero, Nat.reduceAdd]; exact e11) (wl v.c) _ (range_below m2 hb (by omega)) hur rfl hsc rfl
            | 13, _ =>
              refine wpOp_step rfl (fun K hK => ?_)
              simp only [putF, Act.put, List.setIfInBounds_toArray, List.set_cons_succ, List.set_cons_zero, List.getD_cons_succ, List.getD_cons_zero, Nat.reduceAdd]
              go_simp
              refine hK _ _ ⟨(.slice (some ⟨g, 0, none⟩) 8 cv), ?_, Below.refl _ _, rfl⟩
              simp only [putF, Act.put, List.setIfInBounds_toArray, List.set_cons_succ, List.set_cons_zero, List.getD_cons_succ, List.getD_cons_zero, Nat.reduceAdd]
            | 14, _ =>
              have e13 : xs 13 = (.slice (some ⟨g, 0, none⟩) 8 cv) := hd 13 (by simp) (by kernel_rfl)
              refine wpOp_step rfl (fun K hK => ?_)
              simp only [putF, Act.put, List.setIfInBounds_toArray, List.set_cons_succ, List.set_cons_zero, List.getD_cons_succ, List.getD_cons_zero, Nat.reduceAdd]
              go_simp
              refine hK _ _ ⟨(.pointer (some ⟨g, 96, none⟩)), ?_, Below.refl _ _, rfl⟩
              simp only [putF, Act.put, List.setIfInBounds_toArray, List.set_cons_succ, List.set_cons_zero, List.getD_cons_succ, List.getD_cons_zero, Nat.reduceAdd, e13]
            | 15, _ =>
              have e14 : xs 14 = (.pointer (some ⟨g, 96, none⟩)) := hd 14 (by simp) (by kernel_rfl)
              exact row_step rfl rfl rfl _ _ rfl g 96 (by simp only [putF, Act.put, List.setIfInBounds_toArray, List.set_cons_succ, List.set_cons_zero, List.getD_cons_succ, List.getD_cons_zero, Nat.reduceAdd]; exact e14) (wl v.d) _ (range_below m3 hb (by omega)) hur rfl hsd rfl
            | 16, _ =>
              exact row_step rfl rfl rfl _ _ rfl b10 0 (by simp only [putF, Act.put, List.setIfInBounds_toArray, List.set_cons_succ, List.set_cons_zero, List.getD_cons_succ, List.getD_cons_zero, Nat.reduceAdd]; exact rfl) (wl (v.h + sC v.e + chW v.e v.f v.g + k + x)) _ (range_below mT hb (by omega)) hur rfl hsT rfl
            | 17, _ =>
              have e15 : xs 15 = (.agg (wl v.d).toArray) := hd 15 (by simp) (by kernel_rfl)
              have e16 : xs 16 = (.agg (wl (v.h + sC v.e + chW v.e v.f v.g + k + x)).toArray) := hd 16 (by simp) (by kernel_rfl)
              exact build_step rfl rfl rfl _ _ _ rfl #[(0, (.agg (wl v.d).toArray)), (1, (.agg (wl (v.h + sC v.e + chW v.e v.f v.g + k + x)).toArray))] (by simp only [putF, Act.put, List.setIfInBounds_toArray, List.set_cons_succ, List.set_cons_zero, List.getD_cons_succ, List.getD_cons_zero, Nat.reduceAdd]; go_simp) (slcB 2 W.heap.size) (build_ws W [v.d, (v.h + sC v.e + chW v.e v.f v.g + k + x)] (by simp) (by simp) #[(0, (.agg (wl v.d).toArray)), (1, (.agg (wl (v.h + sC v.e + chW v.e v.f v.g + k + x)).toArray))] rfl) ((Below.refl _ _).alloc (Nat.le_refl _) _) ⟨_, rfl, hbz, Blk.new _ _ _⟩
            | 18, _ =>
              obtain ⟨k17, e17, hB17, hk17⟩ := hd 17 (by simp) (by kernel_rfl)
              simp only [slcB] at e17
              refine wpOp_step rfl (fun K hK => ?_)
              simp only [putF, Act.put, List.setIfInBounds_toArray, List.set_cons_succ, List.set_cons_zero, List.getD_cons_succ, List.getD_cons_zero, Nat.reduceAdd]
              go_simp
              refine (dadd_two _ _ _ _ hk17).mono ?_
              rintro e w1 ⟨rfl, hb1⟩
              go_simp
              refine hK _ _ ⟨(.agg (wl (v.d + (v.h + sC v.e + chW v.e v.f v.g + k + x))).toArray), ?_, hb1, rfl⟩
              simp only [putF, Act.put, List.setIfInBounds_toArray, List.set_cons_succ, List.set_cons_zero, List.getD_cons_succ, List.getD_cons_zero, Nat.reduceAdd, e17]
            | 19, _ =>
              refine wpOp_step rfl (fun K hK => ?_)
              simp only [putF, Act.put, List.setIfInBounds_toArray, List.set_cons_succ, List.set_cons_zero, List.getD_cons_succ, List.getD_cons_zero, Nat.reduceAdd]
              go_simp
              refine hK _ _ ⟨(.slice (some ⟨g, 0, none⟩) 8 cv), ?_, Below.refl _ _, rfl⟩
              simp only [putF, Act.put, List.setIfInBounds_toArray, List.set_cons_succ, List.set_cons_zero, List.getD_cons_succ, List.getD_cons_zero, Nat.reduceAdd]
            | 20, _ =>
              have e19 : xs 19 = (.slice (some ⟨g, 0, none⟩) 8 cv) := hd 19 (by simp) (by kernel_rfl)
              refine wpOp_step rfl (fun K hK => ?_)
              simp only [putF, Act.put, List.setIfInBounds_toArray, List.set_cons_succ, List.set_cons_zero, List.getD_cons_succ, List.getD_cons_zero, Nat.reduceAdd]
              go_simp
              refine hK _ _ ⟨(.pointer (some ⟨g, 128, none⟩)), ?_, Below.refl _ _, rfl⟩
              simp only [putF, Act.put, List.setIfInBounds_toArray, List.set_cons_succ, List.set_cons_zero, List.getD_cons_succ, List.getD_cons_zero, Nat.reduceAdd, e19]
            | 21, _ =>
              have e20 : xs 20 = (.pointer (some ⟨g, 128, none⟩)) := hd 20 (by simp) (by kernel_rfl)
              exact row_step rfl rfl rfl _ _ rfl g 128 (by simp only [putF, Act.put, List.setIfInBounds_toArray, List.set_cons_succ, List.set_cons_zero, List.getD_cons_succ, List.getD_cons_zero, Nat.reduceAdd]; exact e20) (wl v.e) _ (range_below m4 hb (by omega)) hur rfl hse rfl
            | 22, _ =>
              refine wpOp_step rfl (fun K hK => ?_)
              simp only [putF, Act.put, List.setIfInBounds_toArray, List.set_cons_succ, List.set_cons_zero, List.getD_cons_succ, List.getD_cons_zero, Nat.reduceAdd]
              go_simp
              refine hK _ _ ⟨(.slice (some ⟨g, 0, none⟩) 8 cv), ?_, Below.refl _ _, rfl⟩
              simp only [putF, Act.put, List.setIfInBounds_toArray, List.set_cons_succ, List.set_cons_zero, List.getD_cons_succ, List.getD_cons_zero, Nat.reduceAdd]
            | 23, _ =>
              have e22 : xs 22 = (.slice (some ⟨g, 0, none⟩) 8 cv) := hd 22 (by simp) (by kernel_rfl)
              refine wpOp_step rfl (fun K hK => ?_)
              simp only [putF, Act.put, List.setIfInBounds_toArray, List.set_cons_succ, List.set_cons_zero, List.getD_cons_succ, List.getD_cons_zero, Nat.reduceAdd]
              go_simp
              refine hK _ _ ⟨(.pointer (some ⟨g, 160, none⟩)), ?_, Below.refl _ _, rfl⟩
              simp only [putF, Act.put, List.setIfInBounds_toArray, List.set_cons_succ, List.set_cons_zero, List.getD_cons_succ, List.getD_cons_zero, Nat.reduceAdd, e22]
            | 24, _ =>
              have e23 : xs 23 = (.pointer (some ⟨g, 160, none⟩)) := hd 23 (by simp) (by kernel_rfl)
              exact row_step rfl rfl rfl _ _ rfl g 160 (by simp only [putF, Act.put, List.setIfInBounds_toArray, List.set_cons_succ, List.set_cons_zero, List.getD_cons_succ, List.getD_cons_zero, Nat.reduceAdd]; exact e23) (wl v.f) _ (range_below m5 hb (by omega)) hur rfl hsf rfl
            | 25, _ =>
              refine wpOp_step rfl (fun K hK => ?_)
              simp only [putF, Act.put, List.setIfInBounds_toArray, List.set_cons_succ, List.set_cons_zero, List.getD_cons_succ, List.getD_cons_zero, Nat.reduceAdd]
              go_simp
              refine hK _ _ ⟨(.slice (some ⟨g, 0, none⟩) 8 cv), ?_, Below.refl _ _, rfl⟩
              simp only [putF, Act.put, List.setIfInBounds_toArray, List.set_cons_succ, List.set_cons_zero, List.getD_cons_succ, List.getD_cons_zero, Nat.reduceAdd]
            | 26, _ =>
              have e25 : xs 25 = (.slice (some ⟨g, 0, none⟩) 8 cv) := hd 25 (by simp) (by kernel_rfl)
              refine wpOp_step rfl (fun K hK => ?_)
              simp only [putF, Act.put, List.setIfInBounds_toArray, List.set_cons_succ, List.set_cons_zero, List.getD_cons_succ, List.getD_cons_zero, Nat.reduceAdd]
              go_simp
              refine hK _ _ ⟨(.pointer (some ⟨g, 192, none⟩)), ?_, Below.refl _ _, rfl⟩
              simp only [putF, Act.put, List.setIfInBounds_toArray, List.set_cons_succ, List.set_cons_zero, List.getD_cons_succ, List.getD_cons_zero, Nat.reduceAdd, e25]
            | 27, _ =>
              have e26 : xs 26 = (.pointer (some ⟨g, 192, none⟩)) := hd 26 (by simp) (by kernel_rfl)
              exact row_step rfl rfl rfl _ _ rfl g 192 (by simp only [putF, Act.put, List.setIfInBounds_toArray, List.set_cons_succ, List.set_cons_zero, List.getD_cons_succ, List.getD_cons_zero, Nat.reduceAdd]; exact e26) (wl v.g) _ (range_below m6 hb (by omega)) hur rfl hsg rfl
            | 28, _ =>
              have e3 : xs 3 = (.agg (wl ((v.h + sC v.e + chW v.e v.f v.g + k + x) + (sD v.a + maW v.a v.b v.c))).toArray) := hd 3 (by simp) (by kernel_rfl)
              have e6 : xs 6 = (.agg (wl v.a).toArray) := hd 6 (by simp) (by kernel_rfl)
              have e9 : xs 9 = (.agg (wl v.b).toArray) := hd 9 (by simp) (by kernel_rfl)
              have e12 : xs 12 = (.agg (wl v.c).toArray) := hd 12 (by simp) (by kernel_rfl)
              have e18 : xs 18 = (.agg (wl (v.d + (v.h + sC v.e + chW v.e v.f v.g + k + x))).toArray) := hd 18 (by simp) (by kernel_rfl)
              have e21 : xs 21 = (.agg (wl v.e).toArray) := hd 21 (by simp) (by kernel_rfl)
              have e24 : xs 24 = (.agg (wl v.f).toArray) := hd 24 (by simp) (by kernel_rfl)
              have e27 : xs 27 = (.agg (wl v.g).toArray) := hd 27 (by simp) (by kernel_rfl)
              exact build_step rfl rfl rfl _ _ _ rfl #[(0, (.agg (wl ((v.h + sC v.e + chW v.e v.f v.g + k + x) + (sD v.a + maW v.a v.b v.c))).toArray)), (1, (.agg (wl v.a).toArray)), (2, (.agg (wl v.b).toArray)), (3, (.agg (wl v.c).toArray)), (4, (.agg (wl (v.d + (v.h + sC v.e + chW v.e v.f v.g + k + x))).toArray)), (5, (.agg (wl v.e).toArray)), (6, (.agg (wl v.f).toArray)), (7, (.agg (wl v.g).toArray))] (by simp only [putF, Act.put, List.setIfInBounds_toArray, List.set_cons_succ, List.set_cons_zero, List.getD_cons_succ, List.getD_cons_zero, Nat.reduceAdd]; go_simp) (slcB 8 W.heap.size) (build_ws W [((v.h + sC v.e + chW v.e v.f v.g + k + x) + (sD v.a + maW v.a v.b v.c)), v.a, v.b, v.c, (v.d + (v.h + sC v.e + chW v.e v.f v.g + k + x)), v.e, v.f, v.g] (by simp) (by simp) #[(0, (.agg (wl ((v.h + sC v.e + chW v.e v.f v.g + k + x) + (sD v.a + maW v.a v.b v.c))).toArray)), (1, (.agg (wl v.a).toArray)), (2, (.agg (wl v.b).toArray)), (3, (.agg (wl v.c).toArray)), (4, (.agg (wl (v.d + (v.h + sC v.e + chW v.e v.f v.g + k + x))).toArray)), (5, (.agg (wl v.e).toArray)), (6, (.agg (wl v.f).toArray)), (7, (.agg (wl v.g).toArray))] rfl) ((Below.refl _ _).alloc (Nat.le_refl _) _) ⟨_, rfl, hbz, Blk.new _ _ _⟩
            | 29, _ =>
              obtain ⟨k28, e28, hB28, hk28⟩ := hd 28 (by simp) (by kernel_rfl)
              simp only [slcB] at e28
              refine wpOp_step rfl (fun K hK => ?_)
              simp only [putF, Act.put, List.setIfInBounds_toArray, List.set_cons_succ, List.set_cons_zero, List.getD_cons_succ, List.getD_cons_zero, Nat.reduceAdd]
              go_simp
              refine hK _ _ ⟨slcB 8 k28, ?_, Below.refl _ _, ⟨_, rfl, hB28, hk28⟩⟩
              simp only [putF, Act.put, List.setIfInBounds_toArray, List.set_cons_succ, List.set_cons_zero, List.getD_cons_succ, List.getD_cons_zero, Nat.reduceAdd, slcB, e28]
            | n + 30, h => exact absurd h (by simp)
          · intro xs W hb hg
            rw [if_pos (by simp)]
            obtain ⟨b, e29, hB, hk⟩ := hg 29 (by simp)
            simp only [slcB] at e29
            have HK := Lib.hid hk.ws
            have HBE := Lib.hid (HB2.out.trans (hb.mono (by omega)))
            clear hg
            simp only [putF, Act.put, List.setIfInBounds_toArray, List.set_cons_succ, List.set_cons_zero, List.getD_cons_succ, List.getD_cons_zero, Nat.reduceAdd, e29]
            go_wp2
            go_ret
            exact ⟨b, rfl, by omega, HK.out, HBE.out⟩
end Go.Proofs.YtpeepdkeicgkiaaGreatDoor
