/- Manifests: reading, the program's. Manifests: awake of layer 19. Manifests that come in: small words. A manifest that came in as an argument. -/
import Derived.Test.YtpeepdkeicgkiaaGreatDoorZo20
import Derived.Deep.RegionLaw
import Derived.Deep.AppendLies
import Derived.Deep.DeepCutAuto
import Derived.WalkKit
import Derived.ProofKit
import Derived.OpenShut
import Derived.ChangeOld
import Derived.ChangeMaps5
import Derived.SliceStrings
import Derived.SizedLaws
import Derived.Lib.SmallJoins
namespace Go.Proofs.YtpeepdkeicgkiaaGreatDoor
set_option linter.unusedVariables false
set_option linter.unusedSimpArgs false
set_option linter.unusedSectionVars false
open Go.RowKit

/-- the manifest that is being read, in its block -/
def MBlk (w : World) (g : Nat) (m : Man) (A : Option Addr) (c : Nat) : Prop := Blk w g 32 #[.int .i64 m.time, .string m.tag, .string m.parent, .int .i64 m.size, .slice A m.chunks.length c]
def noMB (w : World) (g : Nat) : Prop := Blk w g 32 #[.int .i64 0, .string ⟨#[]⟩, .string ⟨#[]⟩, .int .i64 0, .slice none 0 0]
def DecPost (s : ByteArray) (w : World) (e : Ending) (w' : World) : Prop := ∃ A c, e = .returned (.tuple #[manV (decS s).1 A c, .int .i64 (decS s).2]) ∧ StrsA w' w'.heap.size A (decS s).1.chunks ∧ Below w.heap.size w w' ∧ (decS s).1.chunks.length ≤ c ∧ (decS s).1.chunks.length ≤ 1099511627776
theorem own_far {w : World} {B : Nat} {e : TypeId} {z n : Nat} {v : Value} {xs : List Value} (h : w.ownsRow B e z v n xs) {j : Nat} (hj : j < B) : v.ownBlock = none ∨ v.ownBlock ≠ some j := by
  cases hv : v.ownBlock with
  | none => exact .inl rfl
  | some k =>
    refine .inr fun e => ?_
    have := (h.lt k hv).1
    simp only [Option.some.injEq] at e
    omega
theorem own_ne {w : World} {B : Nat} {e : TypeId} {z n : Nat} {v : Value} {xs : List Value} (h : w.ownsRow B e z v n xs) {j : Nat} (hj : j < B) : some j ≠ v.ownBlock := fun e => by
  have := (h.lt j e.symm).1
  omega
theorem loopS_len : ∀ (n : Nat) (s : ByteArray) (b : Bool), (loopS n s b).1.length ≤ n
  | 0, _, _ => by simp [loopS]
  | n + 1, s, b => by
    simp only [loopS]
    split
    · simp
    · simp only [List.length_cons]
      have := loopS_len n (takS s b 32).2.1 (takS s b 32).2.2
      omega
set_option maxRecDepth 100000 in
set_option maxHeartbeats 3200000 in
theorem mdecode_any (s : ByteArray) (w : World) (he : Env w) (hs : s.size ≤ 1099511627776) :
    Calls Tryz.prog 37 #[.string s] w fun e w' => DecPost s w e w' := by
  have HEV := Lib.hid fun W (hb : Below w.heap.size w W) => he.below hb
  have HCP := Lib.hid fun W => Tryz.strings_CutPrefix s ⟨#[115, 110, 97, 112]⟩ W
  have hl : (⟨#[115, 110, 97, 112]⟩ : ByteArray).data.toList = snapL := rfl
  rw [hl] at HCP
  have HDS := Lib.hid (show decS s = (if (redS ⟨(Lib.trimPrefix s.data.toList snapL).toArray⟩ (!Lib.hasPrefix s.data.toList snapL)).bad = true ∨ (redS ⟨(Lib.trimPrefix s.data.toList snapL).toArray⟩ (!Lib.hasPrefix s.data.toList snapL)).s.size ≠ 0 then (noMan, 3) else if goodM (redS ⟨(Lib.trimPrefix s.data.toList snapL).toArray⟩ (!Lib.hasPrefix s.data.toList snapL)).m = true then ((redS ⟨(Lib.trimPrefix s.data.toList snapL).toArray⟩ (!Lib.hasPrefix s.data.toList snapL)).m, 0) else (noMan, 4)) from rfl)
  have hz0 : (⟨(Lib.trimPrefix s.data.toList snapL).toArray⟩ : ByteArray).size ≤ s.size := by
    show (Lib.trimPrefix s.data.toList snapL).toArray.size ≤ s.size
    have h1 : s.data.toList.length = s.size := by simp
    have h2 : (Lib.trimPrefix s.data.toList snapL).length ≤ s.data.toList.length := by
      unfold Lib.trimPrefix
      split
      · simp
      · exact Nat.le_refl _
    simp only [List.size_toArray]
    omega
  generalize (⟨(Lib.trimPrefix s.data.toList snapL).toArray⟩ : ByteArray) = s0 at *
  generalize Lib.hasPrefix s.data.toList snapL = b0 at *
  rcases h1 : numS s0 (!b0) with ⟨x1, s1, b1⟩
  rcases h2 : numS s1 b1 with ⟨x2, s2, b2⟩
  rcases h3 : takS s2 b2 x2 with ⟨t3, s3, b3⟩
  rcases h4 : numS s3 b3 with ⟨x4, s4, b4⟩
  rcases h5 : takS s4 b4 x4 with ⟨t5, s5, b5⟩
  rcases h6 : numS s5 b5 with ⟨x6, s6, b6⟩
  rcases h7 : numS s6 b6 with ⟨x7, s7, b7⟩
  rcases h8 : loopS x7 s7 b7 with ⟨l8, s8, b8⟩
  have hred : redS s0 (!b0) = ⟨⟨x1, t3, t5, x6, l8⟩, s8, b8⟩ := by
    unfold redS
    simp only [h1, h2, h3, h4, h5, h6, h7, h8]
  rw [hred] at HDS
  simp only at HDS
  have z1 := numS_le s0 (!b0)
  have z2 := numS_le s1 b1
  have z3 := takS_le s2 b2 x2
  have z4 := numS_le s3 b3
  have z5 := takS_le s4 b4 x4
  have z6 := numS_le s5 b5
  have z7 := numS_le s6 b6
  have z8 := loopS_len x7 s7 b7
  rw [h1] at z1
  rw [h2] at z2
  rw [h3] at z3
  rw [h4] at z4
  rw [h5] at z5
  rw [h6] at z6
  rw [h7] at z7
  rw [h8] at z8
  simp only at z1 z2 z3 z4 z5 z6 z7 z8
  have C1 := Lib.hid fun W hr => mnum_any (w.heap.size + 1) s0 (!b0) W hr (by omega)
  have C2 := Lib.hid fun W hr => mnum_any (w.heap.size + 1) s1 b1 W hr (by omega)
  have C3 := Lib.hid fun W hr => mtake_any (w.heap.size + 1) s2 b2 x2 W hr (by omega) (by omega)
  have C4 := Lib.hid fun W hr => mnum_any (w.heap.size + 1) s3 b3 W hr (by omega)
  have C5 := Lib.hid fun W hr => mtake_any (w.heap.size + 1) s4 b4 x4 W hr (by omega) (by omega)
  have C6 := Lib.hid fun W hr => mnum_any (w.heap.size + 1) s5 b5 W hr (by omega)
  have C7 := Lib.hid fun W hr => mnum_any (w.heap.size + 1) s6 b6 W hr (by omega)
  rw [h1] at C1
  rw [h2] at C2
  rw [h3] at C3
  rw [h4] at C4
  rw [h5] at C5
  rw [h6] at C6
  rw [h7] at C7
  have H8 := Lib.hid h8
  clear h1 h2 h3 h4 h5 h6 h7 h8 hred hl he
  go_enter Tryz.func37, Tryz.ntmps37
  go_wp2_with fail
  refine (HCP.out _).mono ?_
  rintro e w1 ⟨rfl, rfl⟩
  have hR : Rd ((w.alloc (.cells #[.int .i64 0, .string ⟨#[]⟩, .string ⟨#[]⟩, .int .i64 0, .slice none 0 0] 32)).alloc (.cells #[.string s0, .bool (!b0)] 119)) (w.heap.size + 1) s0 (!b0) := by
    have := Blk.new (w.alloc (.cells #[.int .i64 0, .string ⟨#[]⟩, .string ⟨#[]⟩, .int .i64 0, .slice none 0 0] 32)) 119 #[.string s0, .bool (!b0)]
    rw [World.size_alloc] at this
    exact this
  have hN := (Blk.new w 32 #[.int .i64 0, .string ⟨#[]⟩, .string ⟨#[]⟩, .int .i64 0, .slice none 0 0]).alloc (.cells #[.string s0, .bool (!b0)] 119)
  have hB : Below w.heap.size w ((w.alloc (.cells #[.int .i64 0, .string ⟨#[]⟩, .string ⟨#[]⟩, .int .i64 0, .slice none 0 0] 32)).alloc (.cells #[.string s0, .bool (!b0)] 119)) := ((Below.refl _ w).alloc (Nat.le_refl _) _).alloc (by simp) _
  have HR0 := Lib.hid hR
  have HN0 := Lib.hid hN
  have HB0 := Lib.hid hB
  clear hR hN hB
  go_wp2_with fail
  refine (C1.out _ HR0.out).mono ?_
  rintro e w1 ⟨rfl, hr1, o1⟩
  go_wp2_with fail
  refine (C2.out _ hr1).mono ?_
  rintro e w2 ⟨rfl, hr2, o2⟩
  go_wp2_with fail
  refine (C3.out _ hr2).mono ?_
  rintro e w3 ⟨rfl, hr3, o3⟩
  go_wp2_with fail
  refine (C4.out _ hr3).mono ?_
  rintro e w4 ⟨rfl, hr4, o4⟩
  go_wp2_with fail
  refine (C5.out _ hr4).mono ?_
  rintro e w5 ⟨rfl, hr5, o5⟩
  go_wp2_with fail
  refine (C6.out _ hr5).mono ?_
  rintro e w6 ⟨rfl, hr6, o6⟩
  have o06 := o1.trans (o2.trans (o3.trans (o4.trans (o5.trans o6))))
  have hz6 : w6.heap.size = w.heap.size + 2 := by rw [o06.size]; simp
  have HR6 := Lib.hid hr6
  have HN6 := Lib.hid (o06.far HN0.out (by omega))
  have HB6 := Lib.hid (o06.low HB0.out (by simp; omega) (by omega))
  clear o1 o2 o3 o4 o5 o6 o06 hr1 hr2 hr3 hr4 hr5 hr6 HR0 HN0 HB0 C1 C2 C3 C4 C5 C6
  go_wp2_with fail
  refine (C7.out _ (HR6.out.alloc _)).mono ?_
  rintro e w7 ⟨rfl, hr7, o7⟩
  have hM := Blk.new w6 32 #[.int .i64 x1, .string t3, .string t5, .int .i64 x6, .slice none 0 0]
  rw [hz6] at hM
  have hz7 : w7.heap.size = w.heap.size + 3 := by rw [o7.size, World.size_alloc, hz6]
  have HM7 := Lib.hid (o7.far hM (by omega))
  have HR7 := Lib.hid hr7
  have HN7 := Lib.hid (o7.far (HN6.out.alloc _) (by omega))
  have HB7 := Lib.hid (o7.low (HB6.out.alloc (by omega) _) (by simp; omega) (by omega))
  clear hM hr7 o7 HR6 HN6 HB6 C7
  obtain ⟨i0, hi0, hz0', hz1, hz2⟩ := info_parts infoS
  go_wp2
  go_loopw [8] (fun t wr => ∃ (k cur : Nat) (acc : List ByteArray) (A : Option Addr) (s' : ByteArray) (b' : Bool), t = .int .i64 (k : Nat) ∧ Rd wr (w.heap.size + 1) s' b' ∧ Blk wr (w.heap.size + 2) 32 #[.int .i64 x1, .string t3, .string t5, .int .i64 x6, .slice A acc.length cur] ∧ wr.ownsRow (w.heap.size + 3) 9 1 (.slice A acc.length cur) acc.length (strsV acc) ∧ noMB wr w.heap.size ∧ Below w.heap.size w wr ∧ acc ++ (loopS k s' b').1 = l8 ∧ (loopS k s' b').2 = (s8, b8) ∧ k + acc.length ≤ 1099511627776 ∧ s'.size ≤ 1099511627776 ∧ w.heap.size + 3 ≤ wr.heap.size) (fun t _ => (intOf t).toNat)
  case atStart =>
    refine ⟨x7, 0, [], none, s7, b7, ?_, HR7.out, HM7.out, ⟨rfl, Or.inl ⟨rfl, rfl⟩⟩, HN7.out, HB7.out, by rw [H8.out]; rfl, by rw [H8.out], by simp; omega, by omega, by omega⟩
    rfl
  case round =>
    obtain ⟨k, cur, acc, A, s', b', rfl, hr, hm, hown, hno, hb, hn1, hn2, hk, hs', hsz⟩ := hrel
    have HR := Lib.hid hr
    have HM := Lib.hid hm
    have HNO := Lib.hid hno
    have HB := Lib.hid hb
    have HN := Lib.hid (And.intro hn1 hn2)
    have cb : wr.cell? ⟨w.heap.size + 1, 1, none⟩ = some (.bool b') := hr.cell 1
    have cs : wr.cell? ⟨w.heap.size + 1, 0, none⟩ = some (.string s') := hr.cell 0
    clear hr hm hno hb hn1 hn2
    by_cases hgo : 0 < k ∧ b' = false
    · obtain ⟨hk0, rfl⟩ := hgo
      obtain ⟨k, rfl⟩ : ∃ j, k = j + 1 := ⟨k - 1, by omega⟩
      rcases htk : takS s' false 32 with ⟨t, s2', b2'⟩
      have hz := takS_le s' false 32
      rw [htk] at hz
      simp only at hz
      have hT := fun W hr => mtake_any (w.heap.size + 1) s' false 32 W hr (by omega) (by decide)
      rw [htk] at hT
      have HT := Lib.hid hT
      have HL := Lib.hid (show (loopS (k + 1) s' false).1 = t :: (loopS k s2' b2').1 ∧ (loopS (k + 1) s' false).2 = (loopS k s2' b2').2 by
        simp only [loopS, htk]
        simp)
      have c4 : wr.cell? ⟨w.heap.size + 2, 4, none⟩ = some (.slice A acc.length cur) := HM.out.cell 4
      have hq : (0 : Int) < ((k + 1 : Nat) : Int) := by omega
      clear htk hT
      go_upto_region 7 with fail
      go_region_law (first
        | (go_simp; go_at_call 73; refine (HT.out _ HR.out.drew).mono ?_; rintro e wT ⟨rfl, hrT, hoT⟩; have hmT := hoT.far HM.out.drew (by omega); have cT : wT.cell? ⟨w.heap.size + 2, 4, none⟩ = some (.slice A acc.length cur) := hmT.cell 4; have hzT : wr.heap.size ≤ wT.heap.size := Nat.le_of_eq hoT.size.symm; have hltT : w.heap.size + 2 < wT.heap.size := by omega)
        | (refine step_append_lies _ (by rfl) _ _ _ (by rfl) (w.heap.size + 3) 9 i0 _ 1 16 Tryz.underlying30 hi0 hz0' hz1 hz2 rfl (by decide) (.slice A acc.length cur) acc.length (strsV acc) (by rfl) ((hown.drew.kept hoT.grown (own_far hown (by omega))).alloc _) ⟨wT.heap.size, 0, none⟩ 1 1 [.string t] (by rfl) (by rfl) (World.news_of_block (cs := #[.string t]) (heap_alloc_new wT _)) (by simp [Value.oneCell']) (by decide) (by unfold maxLen; omega) (by omega) (by simp; omega) _ rfl ?_; intro g cap w5 hown5 hg5 hat hlt; have hM5 := (hmT.alloc (.cells #[.string t] 9)).grown hg5 (own_ne hown (by omega)); have c5 : w5.cell? ⟨w.heap.size + 2, 4, none⟩ = some (.slice A acc.length cur) := hM5.cell 4; have f5 := hM5.frozen 4))
      all_goals
        have HM5 := Lib.hid (hM5.set_ 4 (.slice (some ⟨g, 0, none⟩) (acc.length + 1) cap))
        have HR5 := Lib.hid (((Blk.alloc hrT (.cells #[.string t] 9)).grown hg5 (own_ne hown (by omega))).far (p := ⟨w.heap.size + 2, 4, none⟩) (by simp) (.slice (some ⟨g, 0, none⟩) (acc.length + 1) cap))
        have HN5 := Lib.hid ((((hoT.far (Blk.drew HNO.out) (by omega)).alloc (.cells #[.string t] 9)).grown hg5 (own_ne hown (by omega))).far (p := ⟨w.heap.size + 2, 4, none⟩) (by simp) (.slice (some ⟨g, 0, none⟩) (acc.length + 1) cap))
        have HB5 := Lib.hid (((((hoT.low HB.out.drew (by show w.heap.size ≤ wr.heap.size; omega) (by omega)).alloc (by omega) (.cells #[.string t] 9)).grown hg5 (by simp; omega) (fun j hj => by have := (hown.lt j hj).1; omega)).setCell (p := ⟨w.heap.size + 2, 4, none⟩) (by simp) (.slice (some ⟨g, 0, none⟩) (acc.length + 1) cap)))
        have HO5 := Lib.hid (hown5.kept (Only.set (w.heap.size + 2) 4 w5 (.slice (some ⟨g, 0, none⟩) (acc.length + 1) cap)).grown (own_far hown5 (by omega)))
        have HZ5 := Lib.hid (show w.heap.size + 3 ≤ w5.heap.size from Nat.le_trans (by simp; omega) hg5.size)
        clear hM5 hmT hrT hoT hown5 hg5 hat
        go_wp2
        go_roundw
        case rel =>
          refine ⟨k, cap, acc ++ [t], some ⟨g, 0, none⟩, s2', b2', rfl, HR5.out, ?_, ?_, HN5.out, HB5.out, ?_, by rw [← HL.out.2]; exact HN.out.2, by simp; omega, by omega, by rw [World.size_setCell]; exact HZ5.out⟩
          · have := HM5.out
            simpa using this
          · have := HO5.out
            simpa [strsV] using this
          · rw [List.append_assoc, List.singleton_append, ← HL.out.1]; exact HN.out.1
        case measure => simp [intOf]
    · have hend : (loopS k s' b') = ([], s', b') := by
        cases k with
        | zero => rfl
        | succ k => simp only [loopS]; rw [if_pos (by cases b' <;> simp_all)]
      have hfin := HN.out
      rw [hend] at hfin
      simp only [List.append_nil, Prod.mk.injEq] at hfin
      obtain ⟨rfl, rfl, rfl⟩ := hfin
      clear hend HN H8
      have r0 : wr.cell? ⟨w.heap.size, 0, none⟩ = some (.int .i64 0) := HNO.out.cell 0
      have u0 : wr.frozen? ⟨w.heap.size, 0, none⟩ = false := HNO.out.frozen 0
      have r1 : wr.cell? ⟨w.heap.size, 1, none⟩ = some (.string ⟨#[]⟩) := HNO.out.cell 1
      have u1 : wr.frozen? ⟨w.heap.size, 1, none⟩ = false := HNO.out.frozen 1
      have r2 : wr.cell? ⟨w.heap.size, 2, none⟩ = some (.string ⟨#[]⟩) := HNO.out.cell 2
      have u2 : wr.frozen? ⟨w.heap.size, 2, none⟩ = false := HNO.out.frozen 2
      have r3 : wr.cell? ⟨w.heap.size, 3, none⟩ = some (.int .i64 0) := HNO.out.cell 3
      have u3 : wr.frozen? ⟨w.heap.size, 3, none⟩ = false := HNO.out.frozen 3
      have r4 : wr.cell? ⟨w.heap.size, 4, none⟩ = some (.slice none 0 0) := HNO.out.cell 4
      have u4 : wr.frozen? ⟨w.heap.size, 4, none⟩ = false := HNO.out.frozen 4
      cases b' with
      | true =>
        have HX := Lib.hid (show decS s = (noMan, 3) by rw [HDS.out, if_pos (Or.inl rfl)])
        rcases Nat.eq_zero_or_pos k with hk0 | hk0
        · subst hk0
          go_wp2
          refine bodyPost_ret (v := .tuple #[.agg #[.int .i64 0, .string ⟨#[]⟩, .string ⟨#[]⟩, .int .i64 0, .slice none 0 0], .int .i64 3]) (by simp [results, Tryz.results37, go_sem, r0, r1, r2, r3, r4]) rfl ?_
          refine ⟨none, 0, ?_, ?_, (((((HB.out.setCell (p := ⟨w.heap.size, 0, none⟩) (Nat.le_refl _) _).setCell (p := ⟨w.heap.size, 1, none⟩) (Nat.le_refl _) _).setCell (p := ⟨w.heap.size, 2, none⟩) (Nat.le_refl _) _).setCell (p := ⟨w.heap.size, 3, none⟩) (Nat.le_refl _) _).setCell (p := ⟨w.heap.size, 4, none⟩) (Nat.le_refl _) _), ?_, ?_⟩
          · rw [HX.out]; rfl
          · rw [HX.out]; exact fun h => absurd h (by simp [noMan])
          · rw [HX.out]; simp [noMan]
          · rw [HX.out]; simp [noMan]
        · have hq : (0 : Int) < (k : Int) := by omega
          go_wp2
          refine bodyPost_ret (v := .tuple #[.agg #[.int .i64 0, .string ⟨#[]⟩, .string ⟨#[]⟩, .int .i64 0, .slice none 0 0], .int .i64 3]) (by simp [results, Tryz.results37, go_sem, r0, r1, r2, r3, r4]) rfl ?_
          refine ⟨none, 0, ?_, ?_, (((((HB.out.setCell (p := ⟨w.heap.size, 0, none⟩) (Nat.le_refl _) _).setCell (p := ⟨w.heap.size, 1, none⟩) (Nat.le_refl _) _).setCell (p := ⟨w.heap.size, 2, none⟩) (Nat.le_refl _) _).setCell (p := ⟨w.heap.size, 3, none⟩) (Nat.le_refl _) _).setCell (p := ⟨w.heap.size, 4, none⟩) (Nat.le_refl _) _), ?_, ?_⟩
          · rw [HX.out]; rfl
          · rw [HX.out]; exact fun h => absurd h (by simp [noMan])
          · rw [HX.out]; simp [noMan]
          · rw [HX.out]; simp [noMan]
      | false =>
        have hk0 : k = 0 := by
          rcases Nat.eq_zero_or_pos k with h | h
          · exact h
          · exact absurd ⟨h, rfl⟩ hgo
        subst hk0
        have hem := toList_isEmpty s'
        by_cases hz : s'.size = 0
        · rw [decide_eq_true hz] at hem
          have HDG := Lib.hid (show decS s = (if goodM ⟨x1, t3, t5, x6, acc⟩ = true then (⟨x1, t3, t5, x6, acc⟩, 0) else (noMan, 4)) by rw [HDS.out, if_neg (fun h => h.elim (fun e => by cases e) (fun e => e hz))])
          have hst := (own_strs (l := acc) hown).1
          have hCK := mcheck_any ⟨x1, t3, t5, x6, acc⟩ A cur wr (HEV.out _ HB.out) hst ⟨by simp only; omega, by simp only; omega, by simp only; omega, by simp only; omega, by simp only; omega, by simp only; omega, by simp only; omega⟩
          unfold manV at hCK
          simp only at hCK
          have HCK := Lib.hid hCK
          have m0 : wr.cell? ⟨w.heap.size + 2, 0, none⟩ = some (.int .i64 x1) := HM.out.cell 0
          have m1 : wr.cell? ⟨w.heap.size + 2, 1, none⟩ = some (.string t3) := HM.out.cell 1
          have m2 : wr.cell? ⟨w.heap.size + 2, 2, none⟩ = some (.string t5) := HM.out.cell 2
          have m3 : wr.cell? ⟨w.heap.size + 2, 3, none⟩ = some (.int .i64 x6) := HM.out.cell 3
          have m4 : wr.cell? ⟨w.heap.size + 2, 4, none⟩ = some (.slice A acc.length cur) := HM.out.cell 4
          have HST := Lib.hid fun h => own_strs2 (l := acc) hown h
          have HLE : acc.length ≤ cur := by
            obtain ⟨_, _, e1, e2⟩ := own_form hown
            injection e1 with _ _ e3
            omega
          clear hst hCK hz hown
          cases hg : goodM ⟨x1, t3, t5, x6, acc⟩ with
          | false =>
            rw [hg] at HCK
            have HX := Lib.hid (show decS s = (noMan, 4) by rw [HDG.out, if_neg (by rw [hg]; simp)])
            have hq : (errI false != 0) = true := rfl
            clear hg HDG
            go_wp2_with fail
            refine HCK.out.mono ?_
            rintro e w9 ⟨rfl, hb9⟩
            have HB9 := Lib.hid (HB.out.trans (hb9.mono HB.out.size))
            have HN9 := Lib.hid (Blk.below HNO.out hb9 (by omega))
            clear hb9 r0 r1 r2 r3 r4 u0 u1 u2 u3 u4
            have r0 : w9.cell? ⟨w.heap.size, 0, none⟩ = some (.int .i64 0) := HN9.out.cell 0
            have u0 : w9.frozen? ⟨w.heap.size, 0, none⟩ = false := HN9.out.frozen 0
            have r1 : w9.cell? ⟨w.heap.size, 1, none⟩ = some (.string ⟨#[]⟩) := HN9.out.cell 1
            have u1 : w9.frozen? ⟨w.heap.size, 1, none⟩ = false := HN9.out.frozen 1
            have r2 : w9.cell? ⟨w.heap.size, 2, none⟩ = some (.string ⟨#[]⟩) := HN9.out.cell 2
            have u2 : w9.frozen? ⟨w.heap.size, 2, none⟩ = false := HN9.out.frozen 2
            have r3 : w9.cell? ⟨w.heap.size, 3, none⟩ = some (.int .i64 0) := HN9.out.cell 3
            have u3 : w9.frozen? ⟨w.heap.size, 3, none⟩ = false := HN9.out.frozen 3
            have r4 : w9.cell? ⟨w.heap.size, 4, none⟩ = some (.slice none 0 0) := HN9.out.cell 4
            have u4 : w9.frozen? ⟨w.heap.size, 4, none⟩ = false := HN9.out.frozen 4
            go_wp2
            refine bodyPost_ret (v := .tuple #[.agg #[.int .i64 0, .string ⟨#[]⟩, .string ⟨#[]⟩, .int .i64 0, .slice none 0 0], .int .i64 (errI false)]) (by simp [results, Tryz.results37, go_sem, r0, r1, r2, r3, r4]) rfl ?_
            refine ⟨none, 0, ?_, ?_, (((((HB9.out.setCell (p := ⟨w.heap.size, 0, none⟩) (Nat.le_refl _) _).setCell (p := ⟨w.heap.size, 1, none⟩) (Nat.le_refl _) _).setCell (p := ⟨w.heap.size, 2, none⟩) (Nat.le_refl _) _).setCell (p := ⟨w.heap.size, 3, none⟩) (Nat.le_refl _) _).setCell (p := ⟨w.heap.size, 4, none⟩) (Nat.le_refl _) _), ?_, ?_⟩
            · rw [HX.out]; rfl
            · rw [HX.out]; exact fun h => absurd h (by simp [noMan])
            · rw [HX.out]; simp [noMan]
            · rw [HX.out]; simp [noMan]
          | true =>
            rw [hg] at HCK
            have HX := Lib.hid (show decS s = (⟨x1, t3, t5, x6, acc⟩, 0) by rw [HDG.out, if_pos hg])
            have hq : (errI true != 0) = false := rfl
            clear hg HDG
            go_wp2_with fail
            refine HCK.out.mono ?_
            rintro e w9 ⟨rfl, hb9⟩
            have HB9 := Lib.hid (HB.out.trans (hb9.mono HB.out.size))
            have HN9 := Lib.hid (Blk.below HNO.out hb9 (by omega))
            have HM9 := Lib.hid (Blk.below HM.out hb9 (by omega))
            have HS9 := Lib.hid fun h => by
              obtain ⟨g, e1, e2, e3, e4⟩ := HST.out h
              exact (⟨g, e1, e2, Nat.lt_of_lt_of_le e3 hb9.size, fun j u hj => (hb9.cell (p := ⟨g, 0 + j, none⟩) e3).trans (e4 j u hj)⟩ : ∃ g, A = some ⟨g, 0, none⟩ ∧ w.heap.size + 3 ≤ g ∧ g < w9.heap.size ∧ ∀ (j : Nat) (u : ByteArray), acc[j]? = some u → w9.cell? ⟨g, 0 + j, none⟩ = some (.string u))
            clear hb9 r0 r1 r2 r3 r4 u0 u1 u2 u3 u4 m0 m1 m2 m3 m4
            have r0 : w9.cell? ⟨w.heap.size, 0, none⟩ = some (.int .i64 0) := HN9.out.cell 0
            have u0 : w9.frozen? ⟨w.heap.size, 0, none⟩ = false := HN9.out.frozen 0
            have r1 : w9.cell? ⟨w.heap.size, 1, none⟩ = some (.string ⟨#[]⟩) := HN9.out.cell 1
            have u1 : w9.frozen? ⟨w.heap.size, 1, none⟩ = false := HN9.out.frozen 1
            have r2 : w9.cell? ⟨w.heap.size, 2, none⟩ = some (.string ⟨#[]⟩) := HN9.out.cell 2
            have u2 : w9.frozen? ⟨w.heap.size, 2, none⟩ = false := HN9.out.frozen 2
            have r3 : w9.cell? ⟨w.heap.size, 3, none⟩ = some (.int .i64 0) := HN9.out.cell 3
            have u3 : w9.frozen? ⟨w.heap.size, 3, none⟩ = false := HN9.out.frozen 3
            have r4 : w9.cell? ⟨w.heap.size, 4, none⟩ = some (.slice none 0 0) := HN9.out.cell 4
            have u4 : w9.frozen? ⟨w.heap.size, 4, none⟩ = false := HN9.out.frozen 4
            have m0 : w9.cell? ⟨w.heap.size + 2, 0, none⟩ = some (.int .i64 x1) := HM9.out.cell 0
            have m1 : w9.cell? ⟨w.heap.size + 2, 1, none⟩ = some (.string t3) := HM9.out.cell 1
            have m2 : w9.cell? ⟨w.heap.size + 2, 2, none⟩ = some (.string t5) := HM9.out.cell 2
            have m3 : w9.cell? ⟨w.heap.size + 2, 3, none⟩ = some (.int .i64 x6) := HM9.out.cell 3
            have m4 : w9.cell? ⟨w.heap.size + 2, 4, none⟩ = some (.slice A acc.length cur) := HM9.out.cell 4
            go_wp2
            refine bodyPost_ret (v := .tuple #[.agg #[.int .i64 x1, .string t3, .string t5, .int .i64 x6, .slice A acc.length cur], .int .i64 0]) (by simp [results, Tryz.results37, go_sem, r0, r1, r2, r3, r4]) rfl ?_
            refine ⟨A, cur, ?_, ?_, (((((HB9.out.setCell (p := ⟨w.heap.size, 0, none⟩) (Nat.le_refl _) _).setCell (p := ⟨w.heap.size, 1, none⟩) (Nat.le_refl _) _).setCell (p := ⟨w.heap.size, 2, none⟩) (Nat.le_refl _) _).setCell (p := ⟨w.heap.size, 3, none⟩) (Nat.le_refl _) _).setCell (p := ⟨w.heap.size, 4, none⟩) (Nat.le_refl _) _), ?_, ?_⟩
            · rw [HX.out]; rfl
            · rw [HX.out]
              intro hl
              obtain ⟨g, e1, e2, e3, e4⟩ := HS9.out hl
              refine ⟨g, 0, e1, by simp; exact e3, fun j u hj => ?_⟩
              rw [← e4 j u hj]
              refine World.cell?_of_block ?_
              rw [Below.heap_setCell _ _ _ _ (by simp; omega), Below.heap_setCell _ _ _ _ (by simp; omega), Below.heap_setCell _ _ _ _ (by simp; omega), Below.heap_setCell _ _ _ _ (by simp; omega), Below.heap_setCell _ _ _ _ (by simp; omega)]
            · rw [HX.out]; exact HLE
            · rw [HX.out]; simp only; omega
        · have HX := Lib.hid (show decS s = (noMan, 3) by rw [HDS.out, if_pos (Or.inr hz)])
          rw [decide_eq_false hz] at hem
          clear hz
          go_wp2
          refine bodyPost_ret (v := .tuple #[.agg #[.int .i64 0, .string ⟨#[]⟩, .string ⟨#[]⟩, .int .i64 0, .slice none 0 0], .int .i64 3]) (by simp [results, Tryz.results37, go_sem, r0, r1, r2, r3, r4]) rfl ?_
          refine ⟨none, 0, ?_, ?_, (((((HB.out.setCell (p := ⟨w.heap.size, 0, none⟩) (Nat.le_refl _) _).setCell (p := ⟨w.heap.size, 1, none⟩) (Nat.le_refl _) _).setCell (p := ⟨w.heap.size, 2, none⟩) (Nat.le_refl _) _).setCell (p := ⟨w.heap.size, 3, none⟩) (Nat.le_refl _) _).setCell (p := ⟨w.heap.size, 4, none⟩) (Nat.le_refl _) _), ?_, ?_⟩
          · rw [HX.out]; rfl
          · rw [HX.out]; exact fun h => absurd h (by simp [noMan])
          · rw [HX.out]; simp [noMan]
          · rw [HX.out]; simp [noMan]
end Go.Proofs.YtpeepdkeicgkiaaGreatDoor
namespace Go.Proofs.YtpeepdkeicgkiaaGreatDoor
set_option linter.unusedVariables false
set_option linter.unusedSimpArgs false
set_option linter.unusedSectionVars false
open Go.RowKit

def m19 : Man := ⟨5, ⟨#[]⟩, ⟨#[]⟩, 1, [⟨#[48, 49, 50, 51, 52, 53, 54, 55, 56, 57, 48, 49, 50, 51, 52, 53, 54, 55, 56, 57, 48, 49, 50, 51, 52, 53, 54, 55, 56, 57, 48, 49]⟩]⟩
theorem enc19 : ((encR m19).1.toList == ((⟨#[115, 110, 97, 112, 5, 0, 0, 1, 1]⟩ : ByteArray) ++ ⟨#[48, 49, 50, 51, 52, 53, 54, 55, 56, 57, 48, 49, 50, 51, 52, 53, 54, 55, 56, 57, 48, 49, 50, 51, 52, 53, 54, 55, 56, 57, 48, 49]⟩).toList) = true ∧ (encR m19).2 = 0 := by decide +kernel
theorem dec19 : (decS ⟨#[115, 110, 97, 112]⟩).2 = 3 := by decide +kernel
theorem drop19 (s : ByteArray) (w : World) (he : Env w) (hs : s.size ≤ 1099511627776) (k : Int) (hk : (decS s).2 = k) : Calls Tryz.prog 37 #[.string s] w fun e w' => ∃ t0 t1 t2 t3 A n c, e = .returned (.tuple #[.agg #[.int .i64 t0, .string t1, .string t2, .int .i64 t3, .slice A n c], .int .i64 k]) ∧ Below w.heap.size w w' :=
  (mdecode_any s w he hs).mono fun e w' ⟨A, c, h1, _, h3, _⟩ => ⟨(decS s).1.time, (decS s).1.tag, (decS s).1.parent, (decS s).1.size, A, (decS s).1.chunks.length, c, by rw [h1, hk]; rfl, h3⟩
set_option maxRecDepth 100000 in
set_option maxHeartbeats 800000 in
theorem awake19_any (w : World) (he : Env w) : Calls Tryz.prog 16 #[] w fun e w' => e = .returned (.bool true) ∧ Below w.heap.size w w' := by
  have hb0 : Below w.heap.size w (w.alloc (.cells #[.string ⟨#[48, 49, 50, 51, 52, 53, 54, 55, 56, 57, 48, 49, 50, 51, 52, 53, 54, 55, 56, 57, 48, 49, 50, 51, 52, 53, 54, 55, 56, 57, 48, 49]⟩] 9)) := (Below.refl _ w).alloc (Nat.le_refl _) _
  have HE := Lib.hid fun W (hb : Below w.heap.size w W) => he.below hb
  have HB0 := Lib.hid hb0
  have hst : StrsA (w.alloc (.cells #[.string ⟨#[48, 49, 50, 51, 52, 53, 54, 55, 56, 57, 48, 49, 50, 51, 52, 53, 54, 55, 56, 57, 48, 49, 50, 51, 52, 53, 54, 55, 56, 57, 48, 49]⟩] 9)) (w.alloc (.cells #[.string ⟨#[48, 49, 50, 51, 52, 53, 54, 55, 56, 57, 48, 49, 50, 51, 52, 53, 54, 55, 56, 57, 48, 49, 50, 51, 52, 53, 54, 55, 56, 57, 48, 49]⟩] 9)).heap.size (some ⟨w.heap.size, 0, none⟩) m19.chunks := fun _ => ⟨w.heap.size, 0, rfl, by simp, fun j u hj => by
    have hc := (Blk.new w 9 #[.string ⟨#[48, 49, 50, 51, 52, 53, 54, 55, 56, 57, 48, 49, 50, 51, 52, 53, 54, 55, 56, 57, 48, 49, 50, 51, 52, 53, 54, 55, 56, 57, 48, 49]⟩]).cell j
    rw [Nat.zero_add, hc]
    match j, hj with
    | 0, hj => simp [m19] at hj; simp [← hj]
    | j + 1, hj => simp [m19] at hj⟩
  have h1 := mencode_any m19 (some ⟨w.heap.size, 0, none⟩) 1 _ (he.below hb0) hst ⟨by decide, by decide, by decide, by decide, by decide, by decide, by decide⟩ (by decide)
  obtain ⟨e1, e2⟩ := enc19
  rw [e2] at h1
  generalize (encR m19).1 = S at *
  unfold manV m19 at h1
  have H1 := Lib.hid h1
  have H2 := Lib.hid fun W (h : Env W) => drop19 ⟨#[115, 110, 97, 112]⟩ W h (by decide) 3 dec19
  have y1 := fun W => run_string_add_sum (P := Tryz.prog) W ⟨#[115, 110, 97, 112, 5, 0, 0, 1, 1]⟩ ⟨#[48, 49, 50, 51, 52, 53, 54, 55, 56, 57, 48, 49, 50, 51, 52, 53, 54, 55, 56, 57, 48, 49, 50, 51, 52, 53, 54, 55, 56, 57, 48, 49]⟩ (by decide)
  clear h1 hst hb0 he e2
  go_enter Tryz.func16, Tryz.ntmps16
  go_wp2_with fail
  refine H1.out.mono ?_
  rintro e w1 ⟨rfl, hb1⟩
  have g1 := HB0.out.trans (hb1.mono HB0.out.size)
  go_wp2_with fail
  refine (H2.out w1 (HE.out _ g1)).mono ?_
  rintro e w2 ⟨t0, t1, t2, t3, A, n, c, rfl, hb2⟩
  have g2 := g1.trans (hb2.mono g1.size)
  go_wp2
  go_ret
  exact ⟨rfl, (g2.alloc g2.size _)⟩
end Go.Proofs.YtpeepdkeicgkiaaGreatDoor
namespace Go.Proofs.YtpeepdkeicgkiaaGreatDoor
set_option linter.unusedVariables false
set_option linter.unusedSimpArgs false
set_option linter.unusedSectionVars false
open Go.RowKit

theorem StrsA.below {W W' : World} {A : Option Addr} {l : List ByteArray} (h : StrsA W W.heap.size A l) (hb : Below W.heap.size W W') : StrsA W' W'.heap.size A l := fun hl => by
  obtain ⟨b, o, h1, h2, h3⟩ := h hl
  exact ⟨b, o, h1, Nat.lt_of_lt_of_le h2 hb.size, fun j u hj => (hb.cell (p := ⟨b, o + j, none⟩) h2).trans (h3 j u hj)⟩
/-- texts that lie below the boxes of a call -/
theorem StrsA.low {w W : World} {A : Option Addr} {l : List ByteArray} (h : StrsA w w.heap.size A l) (hb : Below w.heap.size w W) : StrsA W W.heap.size A l := h.below hb
/-- what comes in -/
def ManIn (w : World) (m : Man) (A : Option Addr) (c : Nat) : Prop := StrsA w w.heap.size A m.chunks ∧ m.chunks.length ≤ c ∧ (A = none → m.chunks.length = 0 ∧ c = 0) ∧ c ≤ 140737488355328 ∧ ManB m
theorem ManB.few {m : Man} (h : ManB m) : ManB (fewM m) := by
  obtain ⟨h1, h2, h3, h4, h5, h6, h7⟩ := h
  exact ⟨h1, h2, h3, h4, h5, h6, by simp only [fewM, List.length_take]; omega⟩
def mcells (m : Man) (A : Option Addr) (c : Nat) : Array Value := #[.int .i64 m.time, .string m.tag, .string m.parent, .int .i64 m.size, .slice A m.chunks.length c]
/-- five stores into a manifest's block -/
def put5 (w : World) (g : Nat) (m : Man) (A : Option Addr) (c : Nat) : World := ((((w.setCell ⟨g, 0, none⟩ (.int .i64 m.time)).setCell ⟨g, 1, none⟩ (.string m.tag)).setCell ⟨g, 2, none⟩ (.string m.parent)).setCell ⟨g, 3, none⟩ (.int .i64 m.size)).setCell ⟨g, 4, none⟩ (.slice A m.chunks.length c)
theorem put5_blk {w : World} {g : Nat} {t : TypeId} {a0 a1 a2 a3 a4 : Value} (h : Blk w g t #[a0, a1, a2, a3, a4]) (m : Man) (A : Option Addr) (c : Nat) : Blk (put5 w g m A c) g t (mcells m A c) := ((((h.set_ 0 _).set_ 1 _).set_ 2 _).set_ 3 _).set_ 4 _
theorem put5_only (w : World) (g : Nat) (m : Man) (A : Option Addr) (c : Nat) : Only g w (put5 w g m A c) := ((((Only.set g 0 w _).trans (Only.set g 1 _ _)).trans (Only.set g 2 _ _)).trans (Only.set g 3 _ _)).trans (Only.set g 4 _ _)
theorem StrsA.only {W W' : World} {A : Option Addr} {l : List ByteArray} {g n : Nat} (h : StrsA W W.heap.size A l) (ho : Only g W W') (hg : g < n) (hn : ∀ b o, A = some ⟨b, o, none⟩ → 0 < l.length → n ≤ b) : StrsA W' W'.heap.size A l := fun hl => by
  obtain ⟨b, o, h1, h2, h3⟩ := h hl
  have := hn b o h1 hl
  exact ⟨b, o, h1, by rw [ho.size]; exact h2, fun j u hj => ho.grown.cell (h3 j u hj) (by simp; omega)⟩
/-- what the loop has found -/
def SmP (a b : Man) (k : Nat) (sm : Bool) : Prop := (sm = true → a.time = b.time ∧ a.tag = b.tag ∧ a.parent = b.parent ∧ a.size = b.size ∧ a.chunks.length = b.chunks.length ∧ a.chunks.take k = b.chunks.take k) ∧ (sm = false → a ≠ b)
theorem SmP.no {a b : Man} {k : Nat} (h : a ≠ b) : SmP a b k false := ⟨(fun e => by cases e), fun _ => h⟩
theorem SmP.next {a b : Man} {k : Nat} (h : SmP a b k true) (h1 : k < a.chunks.length) (h2 : k < b.chunks.length) (hx : a.chunks[k] = b.chunks[k]) : SmP a b (k + 1) true := by
  obtain ⟨e1, e2, e3, e4, e5, e6⟩ := h.1 rfl
  refine ⟨fun _ => ⟨e1, e2, e3, e4, e5, ?_⟩, (fun e => by cases e)⟩
  rw [List.take_succ_eq_append_getElem h1, List.take_succ_eq_append_getElem h2, e6, hx]
theorem SmP.last {a b : Man} {k : Nat} (h : SmP a b k true) (hk : a.chunks.length ≤ k) : a = b := by
  obtain ⟨e1, e2, e3, e4, e5, e6⟩ := h.1 rfl
  rw [List.take_of_length_le hk, List.take_of_length_le (by omega)] at e6
  cases a; cases b
  simp only at *
  subst e1 e2 e3 e4 e6
  rfl
theorem enc_same {a b : Man} (ha : goodM a = true) (hb : goodM b = true) : ((encR a).1.toList == (encR b).1.toList) = sameM a b := by
  rw [txt_ne, Bool.eq_iff_iff, sameM_iff, decide_eq_true_iff]
  refine ⟨fun h => ?_, (fun h => by rw [h])⟩
  unfold encR at h
  rw [if_pos ha, if_pos hb] at h
  exact manL_inj ha hb (bs_inj h)
end Go.Proofs.YtpeepdkeicgkiaaGreatDoor
namespace Go.Proofs.YtpeepdkeicgkiaaGreatDoor
set_option linter.unusedVariables false
set_option linter.unusedSimpArgs false
set_option linter.unusedSectionVars false
open Go.RowKit Go.Maps Go.ChangeShapes Go.WideShapes Go.ChangeAt Go.Deep

theorem laidOut : laidOutB Tryz.prog = true := by kernel_rfl

/-- the value of a manifest in a world -/
def ManP (w : World) (v : Value) (m : Man) : Prop := ∃ A c, v = manV m A c ∧ ManIn w m A c

theorem spot_add (x : Addr) (hx : x.spot = none) (i : Nat) : x.add i = ⟨x.block, x.off + i, none⟩ := by
  unfold Addr.add
  obtain ⟨g, o, s⟩ := x
  simp only at hx
  subst hx
  split <;> simp_all

theorem cell_ltM {w : World} {p : Addr} {u : Value} (h : w.cell? p = some u) : p.block < w.heap.size := by
  unfold World.cell? at h
  cases hb : w.heap[p.block]? with
  | none => simp [hb] at h
  | some o => exact (Array.getElem?_eq_some_iff.1 hb).1

section
variable {H : Type} {enc : TypeId × Value → H} {W : World} {base base' : Nat} {v : Value} {d : DataW H} {p : List MemPlace}

/-- a struct of five cells: its values and what each reads as -/
theorem five_in {P : Program} {t : TypeId} {f0 f1 f2 f3 f4 : Field} (hs : P.underlying t = some (.struct #[f0, f1, f2, f3, f4])) (hone : oneCellFields P #[f0, f1, f2, f3, f4] = true) (hC : P.cellsOf t = 5)
    (hv : Value.okWide P W .any base t v) (h : DataW.Trod enc P W base' (fun _ => true) true t v d p) :
    ∃ (c0 c1 c2 c3 c4 : Value) (y0 y1 y2 y3 y4 : DataW H × List MemPlace) (n : Nat), v = .agg #[c0, c1, c2, c3, c4] ∧ d = .agg [y0.1, y1.1, y2.1, y3.1, y4.1] ∧
      DataW.trod enc P W base' (fun _ => true) true n f0.type [c0] = some y0 ∧ DataW.trod enc P W base' (fun _ => true) true n f1.type [c1] = some y1 ∧ DataW.trod enc P W base' (fun _ => true) true n f2.type [c2] = some y2 ∧
      DataW.trod enc P W base' (fun _ => true) true n f3.type [c3] = some y3 ∧ DataW.trod enc P W base' (fun _ => true) true n f4.type [c4] = some y4 := by
  obtain ⟨cs, rfl, hsz⟩ := okWide_struct hs hv
  obtain ⟨l⟩ := cs
  match l, hsz.trans hC with
  | [c0, c1, c2, c3, c4], _ =>
    obtain ⟨fuel, hf⟩ := h
    obtain ⟨xs, n, _, hx, _, hlen, hg⟩ := DataW.trod_struct hs hf
    obtain ⟨o0, k0⟩ := hone_of hone 0 f0 rfl
    obtain ⟨o1, k1⟩ := hone_of hone 1 f1 rfl
    obtain ⟨o2, k2⟩ := hone_of hone 2 f2 rfl
    obtain ⟨o3, k3⟩ := hone_of hone 3 f3 rfl
    obtain ⟨o4, k4⟩ := hone_of hone 4 f4 rfl
    match xs, hlen with
    | [y0, y1, y2, y3, y4], _ =>
      simp only [Prod.mk.injEq] at hx
      exact ⟨c0, c1, c2, c3, c4, y0, y1, y2, y3, y4, n, rfl, by simpa using hx.1, by simpa [Value.cells, o0, k0] using hg 0 f0 rfl, by simpa [Value.cells, o1, k1] using hg 1 f1 rfl, by simpa [Value.cells, o2, k2] using hg 2 f2 rfl,
        by simpa [Value.cells, o3, k3] using hg 3 f3 rfl, by simpa [Value.cells, o4, k4] using hg 4 f4 rfl⟩

theorem wf64 {x : Int} (h : (Lit.int .i64 x).wf = true) : -9223372036854775808 ≤ x ∧ x ≤ 9223372036854775807 := by
  have h2 : (decide (IntKind.i64.min ≤ x) && decide (x ≤ IntKind.i64.max)) = true := h
  simp only [Bool.and_eq_true, decide_eq_true_eq] at h2
  have e1 : IntKind.i64.min = -9223372036854775808 := by decide
  have e2 : IntKind.i64.max = 9223372036854775807 := by decide
  omega
theorem reach47 {n : Nat} (h : n ≤ reachBytes) : n ≤ 140737488355328 := Nat.le_trans h (by decide)

set_option maxRecDepth 100000 in
theorem man_in (hv : Value.okWide Tryz.prog W .any base 32 v) (h : DataW.Trod enc Tryz.prog W base' (fun _ => true) true 32 v d p)
    (hw : ∀ n ∈ d.weights Tryz.prog 32, n ≤ reachBytes) : ∃ m, ManP W v m := by
  obtain ⟨c0, c1, c2, c3, c4, y0, y1, y2, y3, y4, n, rfl, rfl, h0, h1, h2, h3, h4⟩ := five_in Tryz.underlying32 (by kernel_rfl) (by kernel_rfl) hv h
  obtain ⟨t, e0, rfl, wt⟩ := DataW.trod_int Tryz.underlying3 h0
  obtain ⟨tag, e1, rfl, _⟩ := DataW.trod_string Tryz.underlying9 h1
  obtain ⟨par, e2, rfl, _⟩ := DataW.trod_string Tryz.underlying9 h2
  obtain ⟨z, e3, rfl, wz⟩ := DataW.trod_int Tryz.underlying3 h3
  obtain rfl : c0 = .int .i64 t := by simpa using e0
  obtain rfl : c1 = .string tag := by simpa using e1
  obtain rfl : c2 = .string par := by simpa using e2
  obtain rfl : c3 = .int .i64 z := by simpa using e3
  clear h0 h1 h2 h3 e0 e1 e2 e3
  have wt := wf64 wt
  have wz := wf64 wz
  rw [DataW.weights] at hw
  rw [Tryz.underlying32] at hw
  simp only [List.map_cons, List.map_nil, DataW.weightsEach, DataW.weights, List.mem_append, List.mem_singleton, List.not_mem_nil, false_or, or_false] at hw
  have s1 := reach47 (hw tag.data.toList.length (Or.inl rfl))
  have s2 := reach47 (hw par.data.toList.length (Or.inr (Or.inl rfl)))
  rw [ba_len] at s1 s2
  rcases open_strings Tryz.underlying30 Tryz.underlying9 (by kernel_rfl) h4 with ⟨hcs, _⟩ | ⟨x, l, c, zs, hcs, _, hl, hm, hz, hy, hcell, hwz⟩
  · obtain rfl : c4 = .slice none 0 0 := by simpa using hcs
    exact ⟨⟨t, tag, par, z, []⟩, none, 0, rfl, fun hx => absurd hx (Nat.lt_irrefl 0), Nat.le_refl _, fun _ => ⟨rfl, rfl⟩, Nat.zero_le _, wt.1, wt.2, wz.1, wz.2, s1, s2, Nat.zero_le _⟩
  · obtain rfl : c4 = .slice (some x) l c := by simpa using hcs
    simp only [if_true] at hz
    subst hy
    simp only [DataW.weights, Tryz.underlying30, strs, List.length_map, List.length_take, List.length_drop] at hw
    have s3 := reach47 (hw ((min l zs.length + (zs.length - l)) * Tryz.prog.bytesOf 9) (by simp))
    rw [show Tryz.prog.bytesOf 9 = 16 by kernel_rfl] at s3
    have hlen : (zs.take l).length = l := by rw [List.length_take]; omega
    refine ⟨⟨t, tag, par, z, zs.take l⟩, some x, c, by simp only [manV, hlen], fun h0 => ?_, by simp only [hlen]; exact hl, fun hx => (by cases hx), by omega, wt.1, wt.2, wz.1, wz.2, s1, s2, by simp only [hlen]; omega⟩
    simp only [hlen] at h0
    have hsp := World.cell?_spot (hcell 0 (by omega))
    have hsp' : x.spot = none := by
      unfold Addr.add at hsp; simpa using hsp
    have hc0 := hcell 0 (by omega)
    rw [spot_add x hsp'] at hc0
    refine ⟨x.block, x.off, ?_, (cell_ltM hc0 : (⟨x.block, x.off + 0, none⟩ : Addr).block < _), fun j u hj => ?_⟩
    · obtain ⟨g, o, s⟩ := x
      simp only at hsp'
      subst hsp'; rfl
    · have hjl : j < (zs.take l).length := (List.getElem?_eq_some_iff.1 hj).1
      have hc := hcell j (by omega)
      rw [spot_add x hsp'] at hc
      rw [hc]
      rw [List.getElem?_take_of_lt (by omega)] at hj
      rw [List.getD, hj]; rfl
end

end Go.Proofs.YtpeepdkeicgkiaaGreatDoor
