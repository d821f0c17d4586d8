/- Manifests: reading, the program's. -/
import Derived.Test.YtbjompcaekbjoaaDoorMf
import Derived.Deep.RegionLaw
import Derived.Deep.AppendLies
namespace Go.Proofs.YtbjompcaekbjoaaDoor
open Go.RowKit

/-- the manifest that is being read, in its block -/
def MBlk (w : World) (g : Nat) (m : Man) (A : Option Addr) (c : Nat) : Prop := Blk w g 24 #[.int .i64 m.time, .string m.tag, .string m.parent, .int .i64 m.size, .slice A m.chunks.length c]
def noMB (w : World) (g : Nat) : Prop := Blk w g 24 #[.int .i64 0, .string ⟨#[]⟩, .string ⟨#[]⟩, .int .i64 0, .slice none 0 0]
def DecPost (s : ByteArray) (w : World) (e : Ending) (w' : World) : Prop := ∃ A c, e = .returned (.tuple #[manV (decS s).1 A c, .int .i64 (decS s).2]) ∧ StrsA w' w'.heap.size A (decS s).1.chunks ∧ Below w.heap.size w w' ∧ (decS s).1.chunks.length ≤ c ∧ (decS s).1.chunks.length ≤ 1099511627776
theorem own_far {w : World} {B : Nat} {e : TypeId} {z n : Nat} {v : Value} {xs : List Value} (h : w.ownsRow B e z v n xs) {j : Nat} (hj : j < B) : v.ownBlock = none ∨ v.ownBlock ≠ some j := by
  cases hv : v.ownBlock with
  | none => exact .inl rfl
  | some k =>
    refine .inr fun e => ?_
    have := (h.lt k hv).1
    simp only [Option.some.injEq] at e
    omega
theorem own_ne {w : World} {B : Nat} {e : TypeId} {z n : Nat} {v : Value} {xs : List Value} (h : w.ownsRow B e z v n xs) {j : Nat} (hj : j < B) : some j ≠ v.ownBlock := fun e => by
  have := (h.lt j e.symm).1
  omega
theorem loopS_len : ∀ (n : Nat) (s : ByteArray) (b : Bool), (loopS n s b).1.length ≤ n
  | 0, _, _ => by simp [loopS]
  | n + 1, s, b => by
    simp only [loopS]
    split
    · simp
    · simp only [List.length_cons]
      have := loopS_len n (takS s b 32).2.1 (takS s b 32).2.2
      omega
set_option maxRecDepth 100000 in
set_option maxHeartbeats 3200000 in
theorem mdecode_any (s : ByteArray) (w : World) (he : Env w) (hs : s.size ≤ 1099511627776) :
    Calls Tryd.prog 20 #[.string s] w fun e w' => DecPost s w e w' := by
  have HEV := Lib.hid fun W (hb : Below w.heap.size w W) => he.below hb
  have HCP := Lib.hid fun W => Tryd.strings_CutPrefix s ⟨#[115, 110, 97, 112]⟩ W
  have hl : (⟨#[115, 110, 97, 112]⟩ : ByteArray).data.toList = snapL := rfl
  rw [hl] at HCP
  have HDS := Lib.hid (show decS s = (if (redS ⟨(Lib.trimPrefix s.data.toList snapL).toArray⟩ (!Lib.hasPrefix s.data.toList snapL)).bad = true ∨ (redS ⟨(Lib.trimPrefix s.data.toList snapL).toArray⟩ (!Lib.hasPrefix s.data.toList snapL)).s.size ≠ 0 then (noMan, 3) else if goodM (redS ⟨(Lib.trimPrefix s.data.toList snapL).toArray⟩ (!Lib.hasPrefix s.data.toList snapL)).m = true then ((redS ⟨(Lib.trimPrefix s.data.toList snapL).toArray⟩ (!Lib.hasPrefix s.data.toList snapL)).m, 0) else (noMan, 4)) from rfl)
  have hz0 : (⟨(Lib.trimPrefix s.data.toList snapL).toArray⟩ : ByteArray).size ≤ s.size := by
    show (Lib.trimPrefix s.data.toList snapL).toArray.size ≤ s.size
    have h1 : s.data.toList.length = s.size := by simp
    have h2 : (Lib.trimPrefix s.data.toList snapL).length ≤ s.data.toList.length := by
      unfold Lib.trimPrefix
      split
      · simp
      · exact Nat.le_refl _
    simp only [List.size_toArray]
    omega
  generalize (⟨(Lib.trimPrefix s.data.toList snapL).toArray⟩ : ByteArray) = s0 at *
  generalize Lib.hasPrefix s.data.toList snapL = b0 at *
  rcases h1 : numS s0 (!b0) with ⟨x1, s1, b1⟩
  rcases h2 : numS s1 b1 with ⟨x2, s2, b2⟩
  rcases h3 : takS s2 b2 x2 with ⟨t3, s3, b3⟩
  rcases h4 : numS s3 b3 with ⟨x4, s4, b4⟩
  rcases h5 : takS s4 b4 x4 with ⟨t5, s5, b5⟩
  rcases h6 : numS s5 b5 with ⟨x6, s6, b6⟩
  rcases h7 : numS s6 b6 with ⟨x7, s7, b7⟩
  rcases h8 : loopS x7 s7 b7 with ⟨l8, s8, b8⟩
  have hred : redS s0 (!b0) = ⟨⟨x1, t3, t5, x6, l8⟩, s8, b8⟩ := by
    unfold redS
    simp only [h1, h2, h3, h4, h5, h6, h7, h8]
  rw [hred] at HDS
  simp only at HDS
  have z1 := numS_le s0 (!b0)
  have z2 := numS_le s1 b1
  have z3 := takS_le s2 b2 x2
  have z4 := numS_le s3 b3
  have z5 := takS_le s4 b4 x4
  have z6 := numS_le s5 b5
  have z7 := numS_le s6 b6
  have z8 := loopS_len x7 s7 b7
  rw [h1] at z1
  rw [h2] at z2
  rw [h3] at z3
  rw [h4] at z4
  rw [h5] at z5
  rw [h6] at z6
  rw [h7] at z7
  rw [h8] at z8
  simp only at z1 z2 z3 z4 z5 z6 z7 z8
  have C1 := Lib.hid fun W hr => mnum_any (w.heap.size + 1) s0 (!b0) W hr (by omega)
  have C2 := Lib.hid fun W hr => mnum_any (w.heap.size + 1) s1 b1 W hr (by omega)
  have C3 := Lib.hid fun W hr => mtake_any (w.heap.size + 1) s2 b2 x2 W hr (by omega) (by omega)
  have C4 := Lib.hid fun W hr => mnum_any (w.heap.size + 1) s3 b3 W hr (by omega)
  have C5 := Lib.hid fun W hr => mtake_any (w.heap.size + 1) s4 b4 x4 W hr (by omega) (by omega)
  have C6 := Lib.hid fun W hr => mnum_any (w.heap.size + 1) s5 b5 W hr (by omega)
  have C7 := Lib.hid fun W hr => mnum_any (w.heap.size + 1) s6 b6 W hr (by omega)
  rw [h1] at C1
  rw [h2] at C2
  rw [h3] at C3
  rw [h4] at C4
  rw [h5] at C5
  rw [h6] at C6
  rw [h7] at C7
  have H8 := Lib.hid h8
  clear h1 h2 h3 h4 h5 h6 h7 h8 hred hl he
  go_enter Tryd.func20, Tryd.ntmps20
  go_wp2_with fail
  refine (HCP.out _).mono ?_
  rintro e w1 ⟨rfl, rfl⟩
  have hR : Rd ((w.alloc (.cells #[.int .i64 0, .string ⟨#[]⟩, .string ⟨#[]⟩, .int .i64 0, .slice none 0 0] 24)).alloc (.cells #[.string s0, .bool (!b0)] 78)) (w.heap.size + 1) s0 (!b0) := by
    have := Blk.new (w.alloc (.cells #[.int .i64 0, .string ⟨#[]⟩, .string ⟨#[]⟩, .int .i64 0, .slice none 0 0] 24)) 78 #[.string s0, .bool (!b0)]
    rw [World.size_alloc] at this
    exact this
  have hN := (Blk.new w 24 #[.int .i64 0, .string ⟨#[]⟩, .string ⟨#[]⟩, .int .i64 0, .slice none 0 0]).alloc (.cells #[.string s0, .bool (!b0)] 78)
  have hB : Below w.heap.size w ((w.alloc (.cells #[.int .i64 0, .string ⟨#[]⟩, .string ⟨#[]⟩, .int .i64 0, .slice none 0 0] 24)).alloc (.cells #[.string s0, .bool (!b0)] 78)) := ((Below.refl _ w).alloc (Nat.le_refl _) _).alloc (by simp) _
  have HR0 := Lib.hid hR
  have HN0 := Lib.hid hN
  have HB0 := Lib.hid hB
  clear hR hN hB
  go_wp2_with fail
  refine (C1.out _ HR0.out).mono ?_
  rintro e w1 ⟨rfl, hr1, o1⟩
  go_wp2_with fail
  refine (C2.out _ hr1).mono ?_
  rintro e w2 ⟨rfl, hr2, o2⟩
  go_wp2_with fail
  refine (C3.out _ hr2).mono ?_
  rintro e w3 ⟨rfl, hr3, o3⟩
  go_wp2_with fail
  refine (C4.out _ hr3).mono ?_
  rintro e w4 ⟨rfl, hr4, o4⟩
  go_wp2_with fail
  refine (C5.out _ hr4).mono ?_
  rintro e w5 ⟨rfl, hr5, o5⟩
  go_wp2_with fail
  refine (C6.out _ hr5).mono ?_
  rintro e w6 ⟨rfl, hr6, o6⟩
  have o06 := o1.trans (o2.trans (o3.trans (o4.trans (o5.trans o6))))
  have hz6 : w6.heap.size = w.heap.size + 2 := by rw [o06.size]; simp
  have HR6 := Lib.hid hr6
  have HN6 := Lib.hid (o06.far HN0.out (by omega))
  have HB6 := Lib.hid (o06.low HB0.out (by simp; omega) (by omega))
  clear o1 o2 o3 o4 o5 o6 o06 hr1 hr2 hr3 hr4 hr5 hr6 HR0 HN0 HB0 C1 C2 C3 C4 C5 C6
  go_wp2_with fail
  refine (C7.out _ (HR6.out.alloc _)).mono ?_
  rintro e w7 ⟨rfl, hr7, o7⟩
  have hM := Blk.new w6 24 #[.int .i64 x1, .string t3, .string t5, .int .i64 x6, .slice none 0 0]
  rw [hz6] at hM
  have hz7 : w7.heap.size = w.heap.size + 3 := by rw [o7.size, World.size_alloc, hz6]
  have HM7 := Lib.hid (o7.far hM (by omega))
  have HR7 := Lib.hid hr7
  have HN7 := Lib.hid (o7.far (HN6.out.alloc _) (by omega))
  have HB7 := Lib.hid (o7.low (HB6.out.alloc (by omega) _) (by simp; omega) (by omega))
  clear hM hr7 o7 HR6 HN6 HB6 C7
  obtain ⟨i0, hi0, hz0', hz1, hz2⟩ := info_parts infoS
  go_wp2
  go_loopw [8] (fun t wr => ∃ (k cur : Nat) (acc : List ByteArray) (A : Option Addr) (s' : ByteArray) (b' : Bool), t = .int .i64 (k : Nat) ∧ Rd wr (w.heap.size + 1) s' b' ∧ Blk wr (w.heap.size + 2) 24 #[.int .i64 x1, .string t3, .string t5, .int .i64 x6, .slice A acc.length cur] ∧ wr.ownsRow (w.heap.size + 3) 9 1 (.slice A acc.length cur) acc.length (strsV acc) ∧ noMB wr w.heap.size ∧ Below w.heap.size w wr ∧ acc ++ (loopS k s' b').1 = l8 ∧ (loopS k s' b').2 = (s8, b8) ∧ k + acc.length ≤ 1099511627776 ∧ s'.size ≤ 1099511627776 ∧ w.heap.size + 3 ≤ wr.heap.size) (fun t _ => (intOf t).toNat)
  case atStart =>
    refine ⟨x7, 0, [], none, s7, b7, ?_, HR7.out, HM7.out, ⟨rfl, Or.inl ⟨rfl, rfl⟩⟩, HN7.out, HB7.out, by rw [H8.out]; rfl, by rw [H8.out], by simp; omega, by omega, by omega⟩
    rfl
  case round =>
    obtain ⟨k, cur, acc, A, s', b', rfl, hr, hm, hown, hno, hb, hn1, hn2, hk, hs', hsz⟩ := hrel
    have HR := Lib.hid hr
    have HM := Lib.hid hm
    have HNO := Lib.hid hno
    have HB := Lib.hid hb
    have HN := Lib.hid (And.intro hn1 hn2)
    have cb : wr.cell? ⟨w.heap.size + 1, 1, none⟩ = some (.bool b') := hr.cell 1
    have cs : wr.cell? ⟨w.heap.size + 1, 0, none⟩ = some (.string s') := hr.cell 0
    clear hr hm hno hb hn1 hn2
    by_cases hgo : 0 < k ∧ b' = false
    · obtain ⟨hk0, rfl⟩ := hgo
      obtain ⟨k, rfl⟩ : ∃ j, k = j + 1 := ⟨k - 1, by omega⟩
      rcases htk : takS s' false 32 with ⟨t, s2', b2'⟩
      have hz := takS_le s' false 32
      rw [htk] at hz
      simp only at hz
      have hT := fun W hr => mtake_any (w.heap.size + 1) s' false 32 W hr (by omega) (by decide)
      rw [htk] at hT
      have HT := Lib.hid hT
      have HL := Lib.hid (show (loopS (k + 1) s' false).1 = t :: (loopS k s2' b2').1 ∧ (loopS (k + 1) s' false).2 = (loopS k s2' b2').2 by
        simp only [loopS, htk]
        simp)
      have c4 : wr.cell? ⟨w.heap.size + 2, 4, none⟩ = some (.slice A acc.length cur) := HM.out.cell 4
      have hq : (0 : Int) < ((k + 1 : Nat) : Int) := by omega
      clear htk hT
      go_upto_region 7 with fail
      go_region_law (first
        | (go_simp; go_at_call 63; refine (HT.out _ HR.out.drew).mono ?_; rintro e wT ⟨rfl, hrT, hoT⟩; have hmT := hoT.far HM.out.drew (by omega); have cT : wT.cell? ⟨w.heap.size + 2, 4, none⟩ = some (.slice A acc.length cur) := hmT.cell 4; have hzT : wr.heap.size ≤ wT.heap.size := Nat.le_of_eq hoT.size.symm; have hltT : w.heap.size + 2 < wT.heap.size := by omega)
        | (refine step_append_lies _ (by rfl) _ _ _ (by rfl) (w.heap.size + 3) 9 i0 _ 1 16 Tryd.underlying22 hi0 hz0' hz1 hz2 rfl (by decide) (.slice A acc.length cur) acc.length (strsV acc) (by rfl) ((hown.drew.kept hoT.grown (own_far hown (by omega))).alloc _) ⟨wT.heap.size, 0, none⟩ 1 1 [.string t] (by rfl) (by rfl) (World.news_of_block (cs := #[.string t]) (heap_alloc_new wT _)) (by simp [Value.oneCell']) (by decide) (by unfold maxLen; omega) (by omega) (by simp; omega) _ rfl ?_; intro g cap w5 hown5 hg5 hat hlt; have hM5 := (hmT.alloc (.cells #[.string t] 9)).grown hg5 (own_ne hown (by omega)); have c5 : w5.cell? ⟨w.heap.size + 2, 4, none⟩ = some (.slice A acc.length cur) := hM5.cell 4; have f5 := hM5.frozen 4))
      all_goals
        have HM5 := Lib.hid (hM5.set_ 4 (.slice (some ⟨g, 0, none⟩) (acc.length + 1) cap))
        have HR5 := Lib.hid (((Blk.alloc hrT (.cells #[.string t] 9)).grown hg5 (own_ne hown (by omega))).far (p := ⟨w.heap.size + 2, 4, none⟩) (by simp) (.slice (some ⟨g, 0, none⟩) (acc.length + 1) cap))
        have HN5 := Lib.hid ((((hoT.far (Blk.drew HNO.out) (by omega)).alloc (.cells #[.string t] 9)).grown hg5 (own_ne hown (by omega))).far (p := ⟨w.heap.size + 2, 4, none⟩) (by simp) (.slice (some ⟨g, 0, none⟩) (acc.length + 1) cap))
        have HB5 := Lib.hid (((((hoT.low HB.out.drew (by show w.heap.size ≤ wr.heap.size; omega) (by omega)).alloc (by omega) (.cells #[.string t] 9)).grown hg5 (by simp; omega) (fun j hj => by have := (hown.lt j hj).1; omega)).setCell (p := ⟨w.heap.size + 2, 4, none⟩) (by simp) (.slice (some ⟨g, 0, none⟩) (acc.length + 1) cap)))
        have HO5 := Lib.hid (hown5.kept (Only.set (w.heap.size + 2) 4 w5 (.slice (some ⟨g, 0, none⟩) (acc.length + 1) cap)).grown (own_far hown5 (by omega)))
        have HZ5 := Lib.hid (show w.heap.size + 3 ≤ w5.heap.size from Nat.le_trans (by simp; omega) hg5.size)
        clear hM5 hmT hrT hoT hown5 hg5 hat
        go_wp2
        go_roundw
        case rel =>
          refine ⟨k, cap, acc ++ [t], some ⟨g, 0, none⟩, s2', b2', rfl, HR5.out, ?_, ?_, HN5.out, HB5.out, ?_, by rw [← HL.out.2]; exact HN.out.2, by simp; omega, by omega, by rw [World.size_setCell]; exact HZ5.out⟩
          · have := HM5.out
            simpa using this
          · have := HO5.out
            simpa [strsV] using this
          · rw [List.append_assoc, List.singleton_append, ← HL.out.1]; exact HN.out.1
        case measure => simp [intOf]
    · have hend : (loopS k s' b') = ([], s', b') := by
        cases k with
        | zero => rfl
        | succ k => simp only [loopS]; rw [if_pos (by cases b' <;> simp_all)]
      have hfin := HN.out
      rw [hend] at hfin
      simp only [List.append_nil, Prod.mk.injEq] at hfin
      obtain ⟨rfl, rfl, rfl⟩ := hfin
      clear hend HN H8
      have r0 : wr.cell? ⟨w.heap.size, 0, none⟩ = some (.int .i64 0) := HNO.out.cell 0
      have u0 : wr.frozen? ⟨w.heap.size, 0, none⟩ = false := HNO.out.frozen 0
      have r1 : wr.cell? ⟨w.heap.size, 1, none⟩ = some (.string ⟨#[]⟩) := HNO.out.cell 1
      have u1 : wr.frozen? ⟨w.heap.size, 1, none⟩ = false := HNO.out.frozen 1
      have r2 : wr.cell? ⟨w.heap.size, 2, none⟩ = some (.string ⟨#[]⟩) := HNO.out.cell 2
      have u2 : wr.frozen? ⟨w.heap.size, 2, none⟩ = false := HNO.out.frozen 2
      have r3 : wr.cell? ⟨w.heap.size, 3, none⟩ = some (.int .i64 0) := HNO.out.cell 3
      have u3 : wr.frozen? ⟨w.heap.size, 3, none⟩ = false := HNO.out.frozen 3
      have r4 : wr.cell? ⟨w.heap.size, 4, none⟩ = some (.slice none 0 0) := HNO.out.cell 4
      have u4 : wr.frozen? ⟨w.heap.size, 4, none⟩ = false := HNO.out.frozen 4
      cases b' with
      | true =>
        have HX := Lib.hid (show decS s = (noMan, 3) by rw [HDS.out, if_pos (Or.inl rfl)])
        rcases Nat.eq_zero_or_pos k with hk0 | hk0
        · subst hk0
          go_wp2
          refine bodyPost_ret (v := .tuple #[.agg #[.int .i64 0, .string ⟨#[]⟩, .string ⟨#[]⟩, .int .i64 0, .slice none 0 0], .int .i64 3]) (by simp [results, Tryd.results20, go_sem, r0, r1, r2, r3, r4]) rfl ?_
          refine ⟨none, 0, ?_, ?_, (((((HB.out.setCell (p := ⟨w.heap.size, 0, none⟩) (Nat.le_refl _) _).setCell (p := ⟨w.heap.size, 1, none⟩) (Nat.le_refl _) _).setCell (p := ⟨w.heap.size, 2, none⟩) (Nat.le_refl _) _).setCell (p := ⟨w.heap.size, 3, none⟩) (Nat.le_refl _) _).setCell (p := ⟨w.heap.size, 4, none⟩) (Nat.le_refl _) _), ?_, ?_⟩
          · rw [HX.out]; rfl
          · rw [HX.out]; exact fun h => absurd h (by simp [noMan])
          · rw [HX.out]; simp [noMan]
          · rw [HX.out]; simp [noMan]
        · have hq : (0 : Int) < (k : Int) := by omega
          go_wp2
          refine bodyPost_ret (v := .tuple #[.agg #[.int .i64 0, .string ⟨#[]⟩, .string ⟨#[]⟩, .int .i64 0, .slice none 0 0], .int .i64 3]) (by simp [results, Tryd.results20, go_sem, r0, r1, r2, r3, r4]) rfl ?_
          refine ⟨none, 0, ?_, ?_, (((((HB.out.setCell (p := ⟨w.heap.size, 0, none⟩) (Nat.le_refl _) _).setCell (p := ⟨w.heap.size, 1, none⟩) (Nat.le_refl _) _).setCell (p := ⟨w.heap.size, 2, none⟩) (Nat.le_refl _) _).setCell (p := ⟨w.heap.size, 3, none⟩) (Nat.le_refl _) _).setCell (p := ⟨w.heap.size, 4, none⟩) (Nat.le_refl _) _), ?_, ?_⟩
          · rw [HX.out]; rfl
          · rw [HX.out]; exact fun h => absurd h (by simp [noMan])
          · rw [HX.out]; simp [noMan]
          · rw [HX.out]; simp [noMan]
      | false =>
        have hk0 : k = 0 := by
          rcases Nat.eq_zero_or_pos k with h | h
          · exact h
          · exact absurd ⟨h, rfl⟩ hgo
        subst hk0
        have hem := toList_isEmpty s'
        by_cases hz : s'.size = 0
        · rw [decide_eq_true hz] at hem
          have HDG := Lib.hid (show decS s = (if goodM ⟨x1, t3, t5, x6, acc⟩ = true then (⟨x1, t3, t5, x6, acc⟩, 0) else (noMan, 4)) by rw [HDS.out, if_neg (fun h => h.elim (fun e => by cases e) (fun e => e hz))])
          have hst := (own_strs (l := acc) hown).1
          have hCK := mcheck_any ⟨x1, t3, t5, x6, acc⟩ A cur wr (HEV.out _ HB.out) hst ⟨by simp only; omega, by simp only; omega, by simp only; omega, by simp only; omega, by simp only; omega, by simp only; omega, by simp only; omega⟩
          unfold manV at hCK
          simp only at hCK
          have HCK := Lib.hid hCK
          have m0 : wr.cell? ⟨w.heap.size + 2, 0, none⟩ = some (.int .i64 x1) := HM.out.cell 0
          have m1 : wr.cell? ⟨w.heap.size + 2, 1, none⟩ = some (.string t3) := HM.out.cell 1
          have m2 : wr.cell? ⟨w.heap.size + 2, 2, none⟩ = some (.string t5) := HM.out.cell 2
          have m3 : wr.cell? ⟨w.heap.size + 2, 3, none⟩ = some (.int .i64 x6) := HM.out.cell 3
          have m4 : wr.cell? ⟨w.heap.size + 2, 4, none⟩ = some (.slice A acc.length cur) := HM.out.cell 4
          have HST := Lib.hid fun h => own_strs2 (l := acc) hown h
          have HLE : acc.length ≤ cur := by
            obtain ⟨_, _, e1, e2⟩ := own_form hown
            injection e1 with _ _ e3
            omega
          clear hst hCK hz hown
          cases hg : goodM ⟨x1, t3, t5, x6, acc⟩ with
          | false =>
            rw [hg] at HCK
            have HX := Lib.hid (show decS s = (noMan, 4) by rw [HDG.out, if_neg (by rw [hg]; simp)])
            have hq : (errI false != 0) = true := rfl
            clear hg HDG
            go_wp2_with fail
            refine HCK.out.mono ?_
            rintro e w9 ⟨rfl, hb9⟩
            have HB9 := Lib.hid (HB.out.trans (hb9.mono HB.out.size))
            have HN9 := Lib.hid (Blk.below HNO.out hb9 (by omega))
            clear hb9 r0 r1 r2 r3 r4 u0 u1 u2 u3 u4
            have r0 : w9.cell? ⟨w.heap.size, 0, none⟩ = some (.int .i64 0) := HN9.out.cell 0
            have u0 : w9.frozen? ⟨w.heap.size, 0, none⟩ = false := HN9.out.frozen 0
            have r1 : w9.cell? ⟨w.heap.size, 1, none⟩ = some (.string ⟨#[]⟩) := HN9.out.cell 1
            have u1 : w9.frozen? ⟨w.heap.size, 1, none⟩ = false := HN9.out.frozen 1
            have r2 : w9.cell? ⟨w.heap.size, 2, none⟩ = some (.string ⟨#[]⟩) := HN9.out.cell 2
            have u2 : w9.frozen? ⟨w.heap.size, 2, none⟩ = false := HN9.out.frozen 2
            have r3 : w9.cell? ⟨w.heap.size, 3, none⟩ = some (.int .i64 0) := HN9.out.cell 3
            have u3 : w9.frozen? ⟨w.heap.size, 3, none⟩ = false := HN9.out.frozen 3
            have r4 : w9.cell? ⟨w.heap.size, 4, none⟩ = some (.slice none 0 0) := HN9.out.cell 4
            have u4 : w9.frozen? ⟨w.heap.size, 4, none⟩ = false := HN9.out.frozen 4
            go_wp2
            refine bodyPost_ret (v := .tuple #[.agg #[.int .i64 0, .string ⟨#[]⟩, .string ⟨#[]⟩, .int .i64 0, .slice none 0 0], .int .i64 (errI false)]) (by simp [results, Tryd.results20, go_sem, r0, r1, r2, r3, r4]) rfl ?_
            refine ⟨none, 0, ?_, ?_, (((((HB9.out.setCell (p := ⟨w.heap.size, 0, none⟩) (Nat.le_refl _) _).setCell (p := ⟨w.heap.size, 1, none⟩) (Nat.le_refl _) _).setCell (p := ⟨w.heap.size, 2, none⟩) (Nat.le_refl _) _).setCell (p := ⟨w.heap.size, 3, none⟩) (Nat.le_refl _) _).setCell (p := ⟨w.heap.size, 4, none⟩) (Nat.le_refl _) _), ?_, ?_⟩
            · rw [HX.out]; rfl
            · rw [HX.out]; exact fun h => absurd h (by simp [noMan])
            · rw [HX.out]; simp [noMan]
            · rw [HX.out]; simp [noMan]
          | true =>
            rw [hg] at HCK
            have HX := Lib.hid (show decS s = (⟨x1, t3, t5, x6, acc⟩, 0) by rw [HDG.out, if_pos hg])
            have hq : (errI true != 0) = false := rfl
            clear hg HDG
            go_wp2_with fail
            refine HCK.out.mono ?_
            rintro e w9 ⟨rfl, hb9⟩
            have HB9 := Lib.hid (HB.out.trans (hb9.mono HB.out.size))
            have HN9 := Lib.hid (Blk.below HNO.out hb9 (by omega))
            have HM9 := Lib.hid (Blk.below HM.out hb9 (by omega))
            have HS9 := Lib.hid fun h => by
              obtain ⟨g, e1, e2, e3, e4⟩ := HST.out h
              exact (⟨g, e1, e2, Nat.lt_of_lt_of_le e3 hb9.size, fun j u hj => (hb9.cell (p := ⟨g, 0 + j, none⟩) e3).trans (e4 j u hj)⟩ : ∃ g, A = some ⟨g, 0, none⟩ ∧ w.heap.size + 3 ≤ g ∧ g < w9.heap.size ∧ ∀ (j : Nat) (u : ByteArray), acc[j]? = some u → w9.cell? ⟨g, 0 + j, none⟩ = some (.string u))
            clear hb9 r0 r1 r2 r3 r4 u0 u1 u2 u3 u4 m0 m1 m2 m3 m4
            have r0 : w9.cell? ⟨w.heap.size, 0, none⟩ = some (.int .i64 0) := HN9.out.cell 0
            have u0 : w9.frozen? ⟨w.heap.size, 0, none⟩ = false := HN9.out.frozen 0
            have r1 : w9.cell? ⟨w.heap.size, 1, none⟩ = some (.string ⟨#[]⟩) := HN9.out.cell 1
            have u1 : w9.frozen? ⟨w.heap.size, 1, none⟩ = false := HN9.out.frozen 1
            have r2 : w9.cell? ⟨w.heap.size, 2, none⟩ = some (.string ⟨#[]⟩) := HN9.out.cell 2
            have u2 : w9.frozen? ⟨w.heap.size, 2, none⟩ = false := HN9.out.frozen 2
            have r3 : w9.cell? ⟨w.heap.size, 3, none⟩ = some (.int .i64 0) := HN9.out.cell 3
            have u3 : w9.frozen? ⟨w.heap.size, 3, none⟩ = false := HN9.out.frozen 3
            have r4 : w9.cell? ⟨w.heap.size, 4, none⟩ = some (.slice none 0 0) := HN9.out.cell 4
            have u4 : w9.frozen? ⟨w.heap.size, 4, none⟩ = false := HN9.out.frozen 4
            have m0 : w9.cell? ⟨w.heap.size + 2, 0, none⟩ = some (.int .i64 x1) := HM9.out.cell 0
            have m1 : w9.cell? ⟨w.heap.size + 2, 1, none⟩ = some (.string t3) := HM9.out.cell 1
            have m2 : w9.cell? ⟨w.heap.size + 2, 2, none⟩ = some (.string t5) := HM9.out.cell 2
            have m3 : w9.cell? ⟨w.heap.size + 2, 3, none⟩ = some (.int .i64 x6) := HM9.out.cell 3
            have m4 : w9.cell? ⟨w.heap.size + 2, 4, none⟩ = some (.slice A acc.length cur) := HM9.out.cell 4
            go_wp2
            refine bodyPost_ret (v := .tuple #[.agg #[.int .i64 x1, .string t3, .string t5, .int .i64 x6, .slice A acc.length cur], .int .i64 0]) (by simp [results, Tryd.results20, go_sem, r0, r1, r2, r3, r4]) rfl ?_
            refine ⟨A, cur, ?_, ?_, (((((HB9.out.setCell (p := ⟨w.heap.size, 0, none⟩) (Nat.le_refl _) _).setCell (p := ⟨w.heap.size, 1, none⟩) (Nat.le_refl _) _).setCell (p := ⟨w.heap.size, 2, none⟩) (Nat.le_refl _) _).setCell (p := ⟨w.heap.size, 3, none⟩) (Nat.le_refl _) _).setCell (p := ⟨w.heap.size, 4, none⟩) (Nat.le_refl _) _), ?_, ?_⟩
            · rw [HX.out]; rfl
            · rw [HX.out]
              intro hl
              obtain ⟨g, e1, e2, e3, e4⟩ := HS9.out hl
              refine ⟨g, 0, e1, by simp; exact e3, fun j u hj => ?_⟩
              rw [← e4 j u hj]
              refine World.cell?_of_block ?_
              rw [Below.heap_setCell _ _ _ _ (by simp; omega), Below.heap_setCell _ _ _ _ (by simp; omega), Below.heap_setCell _ _ _ _ (by simp; omega), Below.heap_setCell _ _ _ _ (by simp; omega), Below.heap_setCell _ _ _ _ (by simp; omega)]
            · rw [HX.out]; exact HLE
            · rw [HX.out]; simp only; omega
        · have HX := Lib.hid (show decS s = (noMan, 3) by rw [HDS.out, if_pos (Or.inr hz)])
          rw [decide_eq_false hz] at hem
          clear hz
          go_wp2
          refine bodyPost_ret (v := .tuple #[.agg #[.int .i64 0, .string ⟨#[]⟩, .string ⟨#[]⟩, .int .i64 0, .slice none 0 0], .int .i64 3]) (by simp [results, Tryd.results20, go_sem, r0, r1, r2, r3, r4]) rfl ?_
          refine ⟨none, 0, ?_, ?_, (((((HB.out.setCell (p := ⟨w.heap.size, 0, none⟩) (Nat.le_refl _) _).setCell (p := ⟨w.heap.size, 1, none⟩) (Nat.le_refl _) _).setCell (p := ⟨w.heap.size, 2, none⟩) (Nat.le_refl _) _).setCell (p := ⟨w.heap.size, 3, none⟩) (Nat.le_refl _) _).setCell (p := ⟨w.heap.size, 4, none⟩) (Nat.le_refl _) _), ?_, ?_⟩
          · rw [HX.out]; rfl
          · rw [HX.out]; exact fun h => absurd h (by simp [noMan])
          · rw [HX.out]; simp [noMan]
          · rw [HX.out]; simp [noMan]
end Go.Proofs.YtbjompcaekbjoaaDoor
