/- The index: Decode. -/
import Derived.Test.YtopmanmjggcfaaaIf
namespace Go.Proofs.Ytopmanmjggcfaaa
open Go.RowKit

/-- what is being read: the reader, and the index so far -/
structure DecAt (w0 wr : World) (g b m : Nat) (rb : Option Nat) (s : ByteArray) (bad : Bool) (X : Ix) : Prop where
  rd : Rd wr 75 g s bad
  ix : IxAt wr b (some m) rb X
  gb : g ≠ b
  gm : g ≠ m
  gr : rb ≠ some g
  lg : w0.heap.size ≤ g
  lb : w0.heap.size ≤ b
  lm : w0.heap.size ≤ m
  lr : ∀ k, rb = some k → w0.heap.size ≤ k
  bel : Below w0.heap.size w0 wr
theorem DecAt.far {w0 wr : World} {g b m : Nat} {rb : Option Nat} {s : ByteArray} {bad : Bool} {X : Ix} (h : DecAt w0 wr g b m rb s bad X) : ∀ k, IxF b (some m) rb k → k ≠ g := by
  rintro k (rfl | e | e) e2
  · exact h.gb e2.symm
  · cases e; exact h.gm e2.symm
  · subst e2; exact h.gr e
theorem DecAt.read {w0 wr w' : World} {g b m : Nat} {rb : Option Nat} {s s' : ByteArray} {bad bad' : Bool} {X : Ix} (h : DecAt w0 wr g b m rb s bad X) (hr : Rd w' 75 g s' bad') (hg : wr.grownBy w' (some g)) : DecAt w0 w' g b m rb s' bad' X :=
  ⟨hr, h.ix.block fun k hk => hg.block k (h.ix.lt k hk) (fun e => h.far k hk (by simpa using e)), h.gb, h.gm, h.gr, h.lg, h.lb, h.lm, h.lr, h.bel.grown hg h.bel.size fun k hk => by cases hk; exact h.lg⟩
theorem DecAt.below {w0 wr w' : World} {g b m : Nat} {rb : Option Nat} {s : ByteArray} {bad : Bool} {X : Ix} (h : DecAt w0 wr g b m rb s bad X) (hb : Below wr.heap.size wr w') : DecAt w0 w' g b m rb s bad X :=
  ⟨Blk.below h.rd hb h.rd.lt, h.ix.below hb, h.gb, h.gm, h.gr, h.lg, h.lb, h.lm, h.lr, h.bel.trans (hb.mono h.bel.size)⟩
theorem DecAt.go {w0 wr w' : World} {g b m : Nat} {rb rb' : Option Nat} {s : ByteArray} {bad : Bool} {X X' : Ix} (h : DecAt w0 wr g b m rb s bad X) (hi : IxAt w' b (some m) rb' X') (hg : IxGo b (some m) rb wr w' (some m) rb') : DecAt w0 w' g b m rb' s bad X' := by
  refine ⟨(hg.1.block g h.rd.lt fun hf => h.far g hf rfl).trans h.rd, hi, h.gb, h.gm, ?_, h.lg, h.lb, h.lm, ?_, h.bel.trans (hg.1.below h.bel.size ?_)⟩
  · rcases hg.2.2 with rfl | ⟨k, rfl, hk⟩
    · exact h.gr
    · intro e
      cases e
      exact absurd h.rd.lt (by omega)
  · rcases hg.2.2 with rfl | ⟨k, rfl, hk⟩
    · exact h.lr
    · rintro j e
      cases e
      have := h.bel.size
      omega
  · rintro k hk (rfl | e | e)
    · exact absurd h.lb (by omega)
    · cases e; exact absurd h.lm (by omega)
    · exact absurd (h.lr k e) (by omega)
theorem DecAt.made (w : World) (s : ByteArray) : DecAt w (((w.alloc (.cells #[.string s, .bool false] 75)).alloc (.map #[] 0)).alloc (.cells #[.map (some (w.heap.size + 1)), .slice none 0 0] 27)) w.heap.size (w.heap.size + 2) (w.heap.size + 1) none s false ⟨[], []⟩ := by
  have h1 := Blk.new w 75 #[.string s, .bool false]
  have h2 := ownsKV_made (w.alloc (.cells #[.string s, .bool false] 75)) Try.prog 9
  rw [World.size_alloc] at h2
  have h3 := Blk.new ((w.alloc (.cells #[.string s, .bool false] 75)).alloc (.map #[] 0)) 27 #[.map (some (w.heap.size + 1)), .slice none 0 0]
  rw [World.size_alloc, World.size_alloc] at h3
  exact ⟨(h1.alloc _).alloc _, ⟨none, 0, h3, ⟨rfl, Or.inl ⟨rfl, rfl⟩⟩, rfl, (fun e => by cases e), ownsKV_alloc h2 _⟩, by omega, by omega, (fun e => by cases e), Nat.le_refl _, by omega, by omega, (fun k e => by cases e), (((Below.refl _ w).alloc (Nat.le_refl _) _).alloc (by simp) _).alloc (by simp; omega) _⟩
def DecIPost (s : ByteArray) (w : World) (e : Ending) (w' : World) : Prop :=
  (decI s = none ∧ e = .returned (.tuple #[.pointer none, .int .i64 3]) ∧ Below w.heap.size w w') ∨
  (∃ X b m rb, decI s = some X ∧ e = .returned (.tuple #[.pointer (some ⟨b, 0, none⟩), .int .i64 0]) ∧ IxAt w' b (some m) rb X ∧ w.heap.size ≤ b ∧ w.heap.size ≤ m ∧ (∀ k, rb = some k → w.heap.size ≤ k) ∧ Below w.heap.size w w')
theorem DecAt.none {w wr : World} {g b m : Nat} {rb : Option Nat} {s s' : ByteArray} {bad : Bool} {X : Ix} (h : DecAt w wr g b m rb s' bad X) (hd : decI s = none) : DecIPost s w (.returned (.tuple #[.pointer none, .int .i64 3])) wr := .inl ⟨hd, rfl, h.bel⟩
theorem DecAt.some {w wr : World} {g b m : Nat} {rb : Option Nat} {s s' : ByteArray} {bad : Bool} {X : Ix} (h : DecAt w wr g b m rb s' bad X) (hd : decI s = some X) : DecIPost s w (.returned (.tuple #[.pointer (some ⟨b, 0, Option.none⟩), .int .i64 0])) wr :=
  .inr ⟨X, b, m, rb, hd, rfl, h.ix, h.lb, h.lm, h.lr, h.bel⟩
set_option maxRecDepth 100000 in
set_option maxHeartbeats 2000000 in
theorem idec_any (s : ByteArray) (w : World) (hs : s.size ≤ 1099511627776) : Calls Try.prog 17 #[.string s] w fun e w' => DecIPost s w e w' := by
  have HM0 := Lib.hid (DecAt.made w s)
  have HD1 := Lib.hid (decI_dec1 s)
  have hmm := @run_makeMap Try.prog
  have HI0 := Lib.hid fun W hr => inum_any w.heap.size s false W hr hs
  obtain ⟨z1, z2⟩ := numI_le s false
  rcases h0 : numI s false with ⟨x0, s0, b0⟩
  rw [h0] at HI0 HD1 z1 z2
  simp only at z1 z2 HD1
  clear h0
  go_enter Try.func17, Try.ntmps17
  go_wp2_with fail
  refine (HI0.out _ HM0.out.rd).mono ?_
  rintro e w1 ⟨rfl, hr1, hg1⟩
  have HA := Lib.hid (HM0.out.read hr1 hg1)
  clear hr1 hg1 HM0 HI0 hmm
  go_wp2
  go_loopw [6] (fun i wr => ∃ (k : Nat) (P : List ByteArray) (rb : Option Nat) (s' : ByteArray) (b' : Bool), i = .int .i64 (k : Nat) ∧ DecAt w wr w.heap.size (w.heap.size + 2) (w.heap.size + 1) rb s' b' ⟨P, []⟩ ∧ P.Nodup ∧ decI s = dec1 k P s' b' ∧ k + P.length ≤ 4294967295 ∧ s'.size ≤ 1099511627776) (fun i _ => (intOf i).toNat)
  case atStart => exact ⟨x0, [], none, s0, b0, rfl, HA.out, List.nodup_nil, HD1.out, by simp; omega, by omega⟩
  case round =>
    obtain ⟨k, P, rb, s', b', rfl, ha, hnd, hdec, hkp, hs'⟩ := hrel
    have HA1 := Lib.hid ha
    have HND := Lib.hid hnd
    have HDC := Lib.hid hdec
    have c1 : wr.cell? ⟨w.heap.size, 1, none⟩ = some (.bool b') := ha.rd.cell 1
    clear ha hnd hdec HA
    by_cases hgo : 0 < k ∧ b' = false
    · obtain ⟨hk0, rfl⟩ := hgo
      obtain ⟨k, rfl⟩ : ∃ j, k = j + 1 := ⟨k - 1, by omega⟩
      have hT := fun W hr => itext_any w.heap.size s' false W hr hs'
      have hz := txI_le s' false
      have hst := dec1_step k P s'
      have hdu := dec1_dup k P s'
      generalize txI s' false = tt at *
      obtain ⟨t, s2, b2⟩ := tt
      simp only at hz hst hdu hT
      have HT := Lib.hid hT
      have HST := Lib.hid hst
      have HDU := Lib.hid hdu
      clear hT hst hdu
      have hq : (0 : Int) < ((k + 1 : Nat) : Int) := by omega
      go_wp2_with fail
      refine (HT.out _ HA1.out.rd).mono ?_
      rintro e w2 ⟨rfl, hr2, hg2⟩
      have HA2 := Lib.hid (HA1.out.read hr2 hg2)
      clear hr2 hg2 c1
      obtain ⟨A, c, hk, ho, hrb, hne, hm⟩ := HA2.out.ix
      have d1 : w2.cell? ⟨w.heap.size + 2, 1, none⟩ = some (.slice A P.length c) := hk.cell 1
      have f1 := hk.frozen 1
      have hbl := hk.lt
      have HC := Lib.hid (has_any A c P t w2 (own_strs (l := P) ho).1 (by omega))
      have HO := Lib.hid ho
      have HRB := Lib.hid (And.intro hrb hne)
      have HK := Lib.hid hk
      have HM := Lib.hid hm
      clear hk ho hrb hne hm HA1 HD1
      cases hp : hasP P t with
      | true =>
        rw [hp] at HC
        have HF := Lib.hid (HA2.out.none (HDC.out.trans (HDU.out hp)))
        clear hp
        go_wp2_with fail
        refine HC.out.mono ?_
        rintro e w3 ⟨rfl, rfl⟩
        go_wp2
        go_ret2
        exact HF.out
      | false =>
        rw [hp] at HC
        have HND2 := Lib.hid (show (P ++ [t]).Nodup by
          have := addP_nodup (pack := t) HND.out
          unfold addP at this
          rwa [if_neg (by simp [hp])] at this)
        clear hp
        go_wp2_with fail
        refine HC.out.mono ?_
        rintro e w3 ⟨rfl, rfl⟩
        go_upto_region 9 with fail
        go_wp2_with (at_builtin; refine wpList_app1 rfl _ _ 25 rfl 0 9 Try.underlying25 infoS rfl (by decide) _ _ _ rfl HO.out _ rfl rfl (oneCell_string _) (by omega) (by omega) (Nat.zero_le _) ?_)
        intro g5 cap5 w5 ho5 hgr5 _ hloc5
        have hk5 := HK.out.grown hgr5 (fun e => HRB.out.2 (by rw [← HRB.out.1]; exact e.symm))
        have c5 : w5.cell? ⟨w.heap.size + 2, 1, none⟩ = some (.slice A P.length c) := hk5.cell 1
        have f5 := hk5.frozen 1
        have HM5 := Lib.hid (mid_app (X := ⟨P, []⟩) HK.out HO.out HRB.out HM.out ho5 hgr5 hloc5)
        clear ho5 hgr5 hloc5 hk5
        go_wp2
        go_roundw
        case rel => exact ⟨k, P ++ [t], some g5, s2, b2, by go_num, HA2.out.go HM5.out.1 HM5.out.2, HND2.out, HDC.out.trans HST.out, by simp; omega, by omega⟩
        case measure => simp [intOf]
    · have hkb : k = 0 ∨ (0 < k ∧ b' = true) := by
        rcases Nat.eq_zero_or_pos k with h | h
        · exact .inl h
        · cases b' with
          | true => exact .inr ⟨h, rfl⟩
          | false => exact absurd ⟨h, rfl⟩ hgo
      have HDE := Lib.hid (show decI s = if (numI s' b').2.2 = true then none else decQ P (numI s' b').1 ⟨#[]⟩ [] (numI s' b').2.1 by
        rcases hkb with rfl | ⟨_, rfl⟩
        · rw [HDC.out, dec1_zero HND.out]
        · rw [HDC.out, dec1_bad, numI_bad, if_pos rfl])
      have HI2 := Lib.hid fun W hr => inum_any w.heap.size s' b' W hr hs'
      obtain ⟨y1, y2⟩ := numI_le s' b'
      clear hgo
      rcases h2 : numI s' b' with ⟨x2, s2, b2⟩
      rw [h2] at HI2 HDE y1 y2
      simp only at y1 y2 HDE
      clear h2 HDC HND HD1
      have hkc : k = 0 ∨ ((0 : Int) < (k : Int) ∧ b' = true) := by
        rcases hkb with rfl | ⟨h, rfl⟩
        · exact .inl rfl
        · exact .inr ⟨by omega, rfl⟩
      clear hkb
      rcases hkc with rfl | ⟨hkc, rfl⟩
      all_goals
        go_wp2_with fail
        refine (HI2.out _ HA1.out.rd).mono ?_
        rintro e w2 ⟨rfl, hr2, hg2⟩
        have HA2 := Lib.hid (HA1.out.read hr2 hg2)
        clear hr2 hg2 c1 HA1 HI2
        go_wp2
        go_loopw [8, 9] (fun la i wy => ∃ (k : Nat) (acc : List Pl) (last s' : ByteArray) (b' : Bool), la = .string last ∧ i = .int .i64 (k : Nat) ∧ DecAt w wy w.heap.size (w.heap.size + 2) (w.heap.size + 1) rb s' b' ⟨P, keyed acc⟩ ∧ Rise acc last ∧ (decI s = if b' = true then none else decQ P k last acc s') ∧ k + acc.length ≤ 4294967295 ∧ s'.size ≤ 1099511627776 ∧ last.size ≤ 1099511627776) (fun _ i _ => (intOf i).toNat)
        case atStart => exact ⟨x2, [], ⟨#[]⟩, s2, b2, rfl, rfl, HA2.out, (fun _ h => by cases h), HDE.out, by simp; omega, by omega, by decide⟩
        case round =>
          obtain ⟨k, acc, last, s', b', rfl, rfl, ha, hri, hde, hka, hs', hla⟩ := hrel
          have HA := Lib.hid ha
          have HRI := Lib.hid hri
          have HDQ := Lib.hid hde
          have c1 : wr.cell? ⟨w.heap.size, 1, none⟩ = some (.bool b') := ha.rd.cell 1
          have c0 : wr.cell? ⟨w.heap.size, 0, none⟩ = some (.string s') := ha.rd.cell 0
          clear ha hri hde HA2 HDE
          by_cases hgo : 0 < k ∧ b' = false
          · obtain ⟨hk0, rfl⟩ := hgo
            obtain ⟨k, rfl⟩ : ∃ j, k = j + 1 := ⟨k - 1, by omega⟩
            have HDQ2 := Lib.hid (HDQ.out.trans (if_neg (by simp)))
            clear HDQ c0
            have hstep := decQ_step (packs := P) k (last := last) acc (s := s')
            have href := decQ_ref (packs := P) k (last := last) acc (s := s')
            obtain ⟨t1, t2⟩ := txI_le s' false
            rcases e0 : txI s' false with ⟨nm, s0', b0'⟩
            rcases e1 : numI s0' b0' with ⟨y1, s1', b1'⟩
            rcases e2 : numI s1' b1' with ⟨y2, s2', b2'⟩
            rcases e3 : numI s2' b2' with ⟨y3, s3', b3'⟩
            rcases e4 : numI s3' b3' with ⟨y4, s4', b4'⟩
            rcases e5 : numI s4' b4' with ⟨y5, s5', b5'⟩
            rcases e6 : numI s5' b5' with ⟨y6, s6', b6'⟩
            have hrd : rdH s' false = (⟨nm, y2, y3, y4, y5, y6⟩, y1, s6', b6') := by
              unfold rdH
              simp only [e0, e1, e2, e3, e4, e5, e6]
            have z1 := numI_le s0' b0'
            have z2 := numI_le s1' b1'
            have z3 := numI_le s2' b2'
            have z4 := numI_le s3' b3'
            have z5 := numI_le s4' b4'
            have z6 := numI_le s5' b5'
            rw [e0] at t1 t2
            rw [e1] at z1
            rw [e2] at z2
            rw [e3] at z3
            rw [e4] at z4
            rw [e5] at z5
            rw [e6] at z6
            simp only at t1 t2 z1 z2 z3 z4 z5 z6
            have C0 := Lib.hid fun W hr => itext_any w.heap.size s' false W hr hs'
            have C1 := Lib.hid fun W hr => inum_any w.heap.size s0' b0' W hr (by omega)
            have C2 := Lib.hid fun W hr => inum_any w.heap.size s1' b1' W hr (by omega)
            have C3 := Lib.hid fun W hr => inum_any w.heap.size s2' b2' W hr (by omega)
            have C4 := Lib.hid fun W hr => inum_any w.heap.size s3' b3' W hr (by omega)
            have C5 := Lib.hid fun W hr => inum_any w.heap.size s4' b4' W hr (by omega)
            have C6 := Lib.hid fun W hr => inum_any w.heap.size s5' b5' W hr (by omega)
            rw [e0] at C0
            rw [e1] at C1
            rw [e2] at C2
            rw [e3] at C3
            rw [e4] at C4
            rw [e5] at C5
            rw [e6] at C6
            rw [hrd] at hstep href
            have HSP := Lib.hid hstep
            have HRF := Lib.hid href
            have hq : (0 : Int) < ((k + 1 : Nat) : Int) := by omega
            have hy1 : (y1 : Int) ≤ 4294967295 := by omega
            have hy3 : (y3 : Int) ≤ 4294967295 := by omega
            have hw3 : IntKind.u32.wrap (y3 : Int) = (y3 : Int) := IntWalk.u32_in _ (by omega)
            have hnz : nm.size ≤ 1099511627776 := by omega
            have hsz6 : s6'.size ≤ 1099511627776 := by omega
            clear e0 e1 e2 e3 e4 e5 e6 hrd hstep href t1 t2 z1 z2 z3 z4 z5 z6
            go_wp2_with fail
            refine (C0.out _ HA.out.rd).mono ?_
            rintro e v0 ⟨rfl, hr0, hg0⟩
            clear c1
            go_wp2_with fail
            refine (C1.out _ hr0).mono ?_
            rintro e v1 ⟨rfl, hr1, hg1⟩
            go_wp2_with fail
            refine (C2.out _ hr1).mono ?_
            rintro e v2 ⟨rfl, hr2, hg2⟩
            go_wp2_with fail
            refine (C3.out _ hr2).mono ?_
            rintro e v3 ⟨rfl, hr3, hg3⟩
            go_wp2_with fail
            refine (C4.out _ hr3).mono ?_
            rintro e v4 ⟨rfl, hr4, hg4⟩
            go_wp2_with fail
            refine (C5.out _ hr4).mono ?_
            rintro e v5 ⟨rfl, hr5, hg5⟩
            go_wp2_with fail
            refine (C6.out _ hr5).mono ?_
            rintro e v6 ⟨rfl, hr6, hg6⟩
            have HA6 := Lib.hid (HA.out.read hr6 (hg0.trans (hg1.trans (hg2.trans (hg3.trans (hg4.trans (hg5.trans hg6)))))))
            clear hr0 hr1 hr2 hr3 hr4 hr5 hr6 hg0 hg1 hg2 hg3 hg4 hg5 hg6 C0 C1 C2 C3 C4 C5 C6 HA
            go_upto_region 17 with fail
            have hba : Below v6.heap.size v6 (v6.alloc (.cells #[.string nm, .int .i64 y2, .int .u32 y3, .int .i64 y4, .int .i64 y5, .int .i64 y6] 32)) := (Below.refl _ _).alloc (Nat.le_refl _) _
            have hka := Blk.new v6 32 #[.string nm, .int .i64 y2, .int .u32 y3, .int .i64 y4, .int .i64 y5, .int .i64 y6]
            have HA7 := Lib.hid (HA6.out.below hba)
            clear HA6 hba hw3
            generalize v6.alloc (.cells #[.string nm, .int .i64 y2, .int .u32 y3, .int .i64 y4, .int .i64 y5, .int .i64 y6] 32) = v7 at *
            have HK7 := Lib.hid hka
            clear hka
            have r1 : v7.cell? ⟨w.heap.size, 1, none⟩ = some (.bool b6') := HA7.out.rd.cell 1
            cases b6' with
            | true =>
              have HF := Lib.hid (HA7.out.none (HDQ2.out.trans (HRF.out (Or.inl rfl))))
              go_wp2
              go_ret2
              exact HF.out
            | false =>
              have HDI := Lib.hid fun W => dis_any nm W (by omega)
              cases hn : isNameD nm with
              | false =>
                rw [hn] at HDI
                have HF := Lib.hid fun W hb => ((HA7.out.below (w' := W) hb).none (HDQ2.out.trans (HRF.out (Or.inr (Or.inl hn)))))
                clear hn
                go_wp2_with fail
                refine (HDI.out _).mono ?_
                rintro e v8 ⟨rfl, hb8⟩
                have HF8 := Lib.hid (HF.out _ hb8)
                clear hb8 HF
                go_wp2
                go_ret2
                exact HF8.out
              | true =>
                rw [hn] at HDI
                go_wp2_with fail
                refine (HDI.out _).mono ?_
                rintro e v8 ⟨rfl, hb8⟩
                have HA8 := Lib.hid (HA7.out.below hb8)
                have HK8 := Lib.hid (HK7.out.below hb8 HK7.out.lt)
                clear hb8 HA7 HK7 r1 HDI
                by_cases hlt : last.data.toList < nm.data.toList
                · have hle1 : Op.bytesLess nm.toList last.toList = false := by rw [ba_toList, ba_toList, less_lt, decide_eq_false (List.lt_asymm hlt)]
                  have hle2 : (nm.toList == last.toList) = false := by rw [txt_ne, decide_eq_false (fun e => lt_ne hlt e.symm)]
                  obtain ⟨A, c, hk, ho, hrb, hne, hm⟩ := HA8.out.ix
                  have d1 : v8.cell? ⟨w.heap.size + 2, 1, none⟩ = some (.slice A P.length c) := hk.cell 1
                  have d0 : v8.cell? ⟨w.heap.size + 2, 0, none⟩ = some (.map (some (w.heap.size + 1))) := hk.cell 0
                  have hst := (own_strs (l := P) ho).1
                  have HM := Lib.hid hm
                  clear hk ho hrb hne hm
                  by_cases hil : y1 < P.length
                  · have hig : decide (P.length ≤ y1) = false := decide_eq_false (by omega)
                    have HSP2 := Lib.hid (HSP.out (by
                      unfold refQ
                      rintro (h | h | h | h)
                      · cases h
                      · rw [hn] at h; cases h
                      · exact h hlt
                      · simp only at h; omega))
                    have HLT := Lib.hid hlt
                    clear hn hlt
                    go_upto_region 19 with fail
                    have hget : P.getD y1 ⟨#[]⟩ = P[y1] := by rw [List.getD_eq_getElem?_getD, List.getElem?_eq_getElem hil]; rfl
                    have hek := List.getElem?_eq_getElem hil
                    rw [hget] at HSP2
                    obtain ⟨gp, o, rfl, hgl, hcell⟩ := hst (by omega)
                    have q0 : v8.cell? ⟨gp, o + y1, none⟩ = some (.string P[y1]) := hcell y1 _ hek
                    have hlt' := HLT.out
                    clear hst hcell hget hek HLT hle1 hle2 hig
                    generalize P[y1] = pk at *
                    have hput := rise_put (p := ⟨pk, ⟨nm, y2, y3, y4, y5, y6⟩⟩) HRI.out hlt'
                    have HPU := Lib.hid hput
                    clear hput hlt'
                    have a0 : v8.cell? ⟨v6.heap.size, 0, none⟩ = some (.string nm) := HK8.out.cell 0
                    have a1 : v8.cell? ⟨v6.heap.size, 1, none⟩ = some (.int .i64 y2) := HK8.out.cell 1
                    have a2 : v8.cell? ⟨v6.heap.size, 2, none⟩ = some (.int .u32 y3) := HK8.out.cell 2
                    have a3 : v8.cell? ⟨v6.heap.size, 3, none⟩ = some (.int .i64 y4) := HK8.out.cell 3
                    have a4 : v8.cell? ⟨v6.heap.size, 4, none⟩ = some (.int .i64 y5) := HK8.out.cell 4
                    have a5 : v8.cell? ⟨v6.heap.size, 5, none⟩ = some (.int .i64 y6) := HK8.out.cell 5
                    have hi0 : (0 : Int) ≤ (y1 : Int) := by omega
                    have hi1 : (y1 : Int) < (P.length : Int) := by omega
                    have hi3 : ((y1 : Int)).toNat = y1 := by omega
                    have hm8 : ownsKV v8.drew Try.prog 9 (w.heap.size + 1) (kvMap plV (keyed acc)) := HM.out
                    obtain ⟨w5, hrun5, hown5, hg5⟩ := run_kvStore (w := v8.drew) Try.underlying9 Try.underlying24 hm8 (by rw [kvMap_len]; unfold keyed; rw [List.length_map]; omega) (u := plV ⟨pk, ⟨nm, y2, y3, y4, y5, y6⟩⟩) (show nm.size ≤ maxLen by unfold maxLen; omega)
                    rw [kvPut_map] at hown5
                    unfold plV plC at hrun5
                    have HS5 := Lib.hid (ix_put HA8.out.ix hown5 hg5)
                    have HA9 := Lib.hid (HA8.out.go HS5.out.1 HS5.out.2)
                    clear hm8 hown5 hg5 HS5 HA8 HK8 HM
                    go_region
                    all_goals
                      go_wp2
                      go_roundw
                      case rel => exact ⟨k, acc ++ [⟨pk, ⟨nm, y2, y3, y4, y5, y6⟩⟩], nm, s6', false, rfl, by go_num, by rw [← HPU.out.1]; exact HA9.out, HPU.out.2, by rw [if_neg (by simp)]; exact HDQ2.out.trans HSP2.out, by simp; omega, by omega, by omega⟩
                      case measure => simp [intOf]
                  · have hig : (P.length : Int) ≤ (y1 : Int) := by omega
                    have HF := Lib.hid (HA8.out.none (HDQ2.out.trans (HRF.out (Or.inr (Or.inr (Or.inr (by simp only; omega)))))))
                    clear hn hst hlt hil
                    go_wp2
                    go_ret2
                    exact HF.out
                · have HF := Lib.hid (HA8.out.none (HDQ2.out.trans (HRF.out (Or.inr (Or.inr (Or.inl hlt))))))
                  have hle : Op.bytesLess nm.toList last.toList = true ∨ (Op.bytesLess nm.toList last.toList = false ∧ (nm.toList == last.toList) = true) := by
                    rcases lt_cases nm last with h | h | h
                    · exact .inl (by rw [ba_toList, ba_toList, less_lt, decide_eq_true h])
                    · subst h
                      refine .inr ⟨by rw [less_lt, decide_eq_false (List.lt_irrefl _)], by simp⟩
                    · exact absurd h hlt
                  clear hn hlt
                  rcases hle with hle | ⟨hle, hle2⟩
                  all_goals
                    go_wp2
                    go_ret2
                    exact HF.out
          · have hkb : k = 0 ∨ ((0 : Int) < (k : Int) ∧ b' = true) := by
              rcases Nat.eq_zero_or_pos k with h | h
              · exact .inl h
              · cases b' with
                | true => exact .inr ⟨by omega, rfl⟩
                | false => exact absurd ⟨h, rfl⟩ hgo
            clear hgo
            cases b' with
            | true =>
              have HF := Lib.hid (HA.out.none (HDQ.out.trans (if_pos rfl)))
              rcases hkb with rfl | ⟨hkc, _⟩
              all_goals
                go_wp2
                go_ret2
                exact HF.out
            | false =>
              obtain rfl : k = 0 := by
                rcases hkb with h | ⟨_, h⟩
                · exact h
                · cases h
              have HDZ := Lib.hid ((HDQ.out.trans (if_neg (by simp))).trans (decQ_zero P last acc s'))
              have hem := toList_isEmpty s'
              by_cases hz : s'.size = 0
              · rw [decide_eq_true hz] at hem
                have HF := Lib.hid (HA.out.some (HDZ.out.trans (if_pos hz)))
                clear hz hkb
                go_wp2
                go_ret2
                exact HF.out
              · rw [decide_eq_false hz] at hem
                have HF := Lib.hid (HA.out.none (HDZ.out.trans (if_neg hz)))
                clear hz hkb
                go_wp2
                go_ret2
                exact HF.out
end Go.Proofs.Ytopmanmjggcfaaa
