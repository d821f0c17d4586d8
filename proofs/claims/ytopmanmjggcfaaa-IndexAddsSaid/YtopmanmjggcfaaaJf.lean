/- The document's index: Read. -/
import Derived.Test.YtopmanmjggcfaaaJe
import Derived.Test.YtopmanmjggcfaaaHb
import Derived.Test.YtopmanmjggcfaaaQb
import Derived.Deep.RegionLaw
import Derived.Deep.RegionHeld3
namespace Go.Proofs.Ytopmanmjggcfaaa
open Go.RowKit

theorem rread_some {s : ByteArray} {w wr : World} {P : List ByteArray} {A B : Option Addr} {c d : Nat} {acc : List Pl} {s' : ByteArray} {bad : Bool} {u v : Value} (hd : decI s = some ⟨P, keyed acc⟩) (h : RdAt w wr P A c acc B d s' bad) :
    RReadPost s w (.returned (.tuple #[.agg #[.slice A P.length c, .slice B acc.length d], .bool true])) ((wr.drew.setCell ⟨w.heap.size, 0, none⟩ u).setCell ⟨w.heap.size, 1, none⟩ v) := by
  have hv : valsI ⟨P, keyed acc⟩ = acc := keyed_vals acc
  have hb : ∀ k, w.heap.size + 3 ≤ k → ((wr.drew.setCell ⟨w.heap.size, 0, none⟩ u).setCell ⟨w.heap.size, 1, none⟩ v).heap[k]? = wr.heap[k]? := fun k hk => by
    rw [Below.heap_setCell _ _ _ _ (by simp; omega), Below.heap_setCell _ _ _ _ (by simp; omega)]
    rfl
  refine .inr ⟨⟨P, keyed acc⟩, A, c, B, d, hd, ?_, ?_, ?_, ((h.bel.drew.setCell (p := ⟨w.heap.size, 0, none⟩) (Nat.le_refl _) _).setCell (p := ⟨w.heap.size, 1, none⟩) (Nat.le_refl _) _)⟩
  · unfold rixV
    rw [hv]
  · exact (own_strs (l := P) (own_at h.prow fun j hj => hb j (h.prow.lt j hj).1)).1
  · rw [hv]
    exact (own_pls (own_at h.lrow fun j hj => hb j (h.lrow.lt j hj).1)).1
/-- a place that is being read, in its box -/
structure PlAt (w0 w : World) (gp : Nat) (P : List ByteArray) (A : Option Addr) (c : Nat) (L : List Pl) (B : Option Addr) (d : Nat) (s : ByteArray) (bad : Bool) (cs : Array Value) : Prop where
  rd : RdAt w0 w P A c L B d s bad
  pk : Blk w gp 50 cs
  lo : w0.heap.size + 3 ≤ gp
  na : ∀ k, (Value.slice A P.length c).ownBlock = some k → k ≠ gp
  nb : ∀ k, (Value.slice B L.length d).ownBlock = some k → k ≠ gp
theorem PlAt.made {w0 w : World} {P : List ByteArray} {A : Option Addr} {c : Nat} {L : List Pl} {B : Option Addr} {d : Nat} {s : ByteArray} {bad : Bool} (h : RdAt w0 w P A c L B d s bad) :
    PlAt w0 (w.alloc (.cells #[.string ⟨#[]⟩, .string ⟨#[]⟩, .int .i64 0, .int .u32 0, .int .i64 0, .int .i64 0, .int .i64 0] 50)) w.heap.size P A c L B d s bad #[.string ⟨#[]⟩, .string ⟨#[]⟩, .int .i64 0, .int .u32 0, .int .i64 0, .int .i64 0, .int .i64 0] :=
  ⟨h.below ((Below.refl _ _).alloc (Nat.le_refl _) _), Blk.new w _ _, h.sz, (fun k hk => Nat.ne_of_lt (h.prow.lt k hk).2), (fun k hk => Nat.ne_of_lt (h.lrow.lt k hk).2)⟩
theorem PlAt.read {w0 w w' : World} {gp : Nat} {P : List ByteArray} {A : Option Addr} {c : Nat} {L : List Pl} {B : Option Addr} {d : Nat} {s s' : ByteArray} {bad bad' : Bool} {cs : Array Value} (h : PlAt w0 w gp P A c L B d s bad cs) (hr : Rd w' 79 (w0.heap.size + 1) s' bad') (hg : w.grownBy w' (some (w0.heap.size + 1))) : PlAt w0 w' gp P A c L B d s' bad' cs :=
  ⟨h.rd.read hr hg, h.pk.grown hg (by have := h.lo; simp; omega), h.lo, h.na, h.nb⟩
theorem PlAt.below {w0 w w' : World} {gp : Nat} {P : List ByteArray} {A : Option Addr} {c : Nat} {L : List Pl} {B : Option Addr} {d : Nat} {s : ByteArray} {bad : Bool} {cs : Array Value} (h : PlAt w0 w gp P A c L B d s bad cs) (hb : Below w.heap.size w w') : PlAt w0 w' gp P A c L B d s bad cs :=
  ⟨h.rd.below hb, h.pk.below hb h.pk.lt, h.lo, h.na, h.nb⟩
theorem PlAt.set_ {w0 w : World} {gp : Nat} {P : List ByteArray} {A : Option Addr} {c : Nat} {L : List Pl} {B : Option Addr} {d : Nat} {s : ByteArray} {bad : Bool} {cs : Array Value} (h : PlAt w0 w gp P A c L B d s bad cs) (i : Nat) (u : Value) : PlAt w0 (w.setCell ⟨gp, i, none⟩ u) gp P A c L B d s bad (cs.setIfInBounds i u) := by
  have hl := h.lo
  refine ⟨⟨h.rd.res.far (by simp; omega) _, Blk.far h.rd.cur (by simp; omega) _, h.rd.blk.far (by simp; omega) _, own_at h.rd.prow fun j hj => Below.heap_setCell _ _ _ _ (h.na j hj), own_at h.rd.lrow fun j hj => Below.heap_setCell _ _ _ _ (h.nb j hj), h.rd.apt, h.rd.bel.setCell (p := ⟨gp, i, none⟩) (by simp; omega) _, by rw [World.size_setCell]; exact h.rd.sz⟩, h.pk.set_ i u, h.lo, h.na, h.nb⟩
theorem keepN {w0 W W' : World} {p q : Addr} {u v : Value} (h : W.cell? p = some u ∧ W.cell? q = some v ∧ Below w0.heap.size w0 W) (hb : Below W.heap.size W W') : W'.cell? p = some u ∧ W'.cell? q = some v ∧ Below w0.heap.size w0 W' :=
  ⟨(hb.cell (World.block_lt_of_cell? _ _ h.1)).trans h.1, (hb.cell (World.block_lt_of_cell? _ _ h.2.1)).trans h.2.1, h.2.2.trans (hb.mono h.2.2.size)⟩
theorem keepM {w0 W W' : World} {p q r z : Addr} {u v x y : Value} (h : W.cell? p = some u ∧ W.cell? q = some v ∧ W.cell? r = some x ∧ W.cell? z = some y ∧ Below w0.heap.size w0 W) (hb : Below W.heap.size W W') : W'.cell? p = some u ∧ W'.cell? q = some v ∧ W'.cell? r = some x ∧ W'.cell? z = some y ∧ Below w0.heap.size w0 W' :=
  ⟨(hb.cell (World.block_lt_of_cell? _ _ h.1)).trans h.1, (hb.cell (World.block_lt_of_cell? _ _ h.2.1)).trans h.2.1, (hb.cell (World.block_lt_of_cell? _ _ h.2.2.1)).trans h.2.2.1, (hb.cell (World.block_lt_of_cell? _ _ h.2.2.2.1)).trans h.2.2.2.1, h.2.2.2.2.trans (hb.mono h.2.2.2.2.size)⟩
theorem dec2_next {s0 s s' : ByteArray} {P : List ByteArray} {rn x1 : Nat} {acc : List Pl} {h : Hd} {b' : Bool}
    (hdc : (dupP P = true → decI s0 = none) ∧ (dupP P = false → decI s0 = decQ P (rn + 1) (lastN acc) acc s))
    (hsp : ¬ refQ P (lastN acc) (h, x1, s', b') → decQ P (rn + 1) (lastN acc) acc s = decQ P rn h.name (acc ++ [⟨P.getD x1 ⟨#[]⟩, h⟩]) s')
    (hno : refQ P (lastN acc) (h, x1, s', b') → decI s0 = none) (hil : x1 < P.length) (hn : isNameD h.name = true) (hlt : (lastN acc).data.toList < h.name.data.toList) :
    dec2 s0 P rn (acc ++ [⟨P.getD x1 ⟨#[]⟩, h⟩]) s' b' := by
  unfold dec2
  by_cases hb : b' = true
  · rw [if_pos (Or.inl hb)]
    exact hno (Or.inl hb)
  · cases hd : dupP P with
    | true => rw [if_pos (Or.inr rfl)]; exact hdc.1 hd
    | false =>
      rw [if_neg (by simp [hb]), hdc.2 hd, lastN_snoc]
      refine hsp ?_
      unfold refQ
      rintro (e | e | e | e)
      · exact hb e
      · simp only at e; rw [hn] at e; cases e
      · exact e hlt
      · simp only at e; omega
theorem zeroIx (w : World) : (zeroValue 43).run Try.prog w = .ok (.agg #[.slice none 0 0, .slice none 0 0]) w := by kernel_rfl
set_option maxRecDepth 100000 in
set_option maxHeartbeats 6400000 in
theorem rread_any (s : ByteArray) (w : World) (hs : s.size ≤ 1099511627776) : Calls Try.prog 18 #[.string s] w fun e w' => RReadPost s w e w' := by
  have HM0 := Lib.hid (RdAt.made w s)
  have HI0 := Lib.hid fun W hr => rnum_any (w.heap.size + 1) s false W hr hs
  obtain ⟨z1, z2⟩ := numI_le s false
  rcases h0 : numI s false with ⟨x0, s0, b0⟩
  rcases hp0 : rdPs x0 s0 b0 with ⟨PF, sF, bF⟩
  rcases hm0 : numI sF bF with ⟨xm, s1, b1⟩
  have hd2 := dec2_start (s0 := s) (by rw [h0]; exact hp0) hm0
  obtain ⟨y1, y2⟩ := numI_le sF bF
  have y3 := rdPs_le x0 s0 b0
  rw [h0] at HI0 z1 z2
  rw [hm0] at y1 y2
  rw [hp0] at y3
  simp only at z1 z2 y1 y2 y3
  obtain ⟨y3, y4⟩ := y3
  have HP0 := Lib.hid hp0
  have HN1 := Lib.hid fun W hr => rnum_any (w.heap.size + 1) sF bF W hr (by omega)
  rw [hm0] at HN1
  have HD2 := Lib.hid hd2
  clear h0 hp0 hm0 hd2
  obtain ⟨i0, hi0, hz0', hz1, hz2⟩ := info_parts infoS
  go_enter Try.func18, Try.ntmps18
  go_wp2_with fail
  refine (HI0.out _ HM0.out.cur).mono ?_
  rintro e w1 ⟨rfl, hr1, hg1⟩
  have HA := Lib.hid (HM0.out.read hr1 hg1)
  clear hr1 hg1 HM0 HI0
  go_wp2
  go_loopw [7] (fun i wr => ∃ (k : Nat) (P : List ByteArray) (A : Option Addr) (c : Nat) (s' : ByteArray) (b' : Bool), i = .int .i64 (k : Nat) ∧ RdAt w wr P A c [] none 0 s' b' ∧ P.length = k ∧ k ≤ x0 ∧ P ++ (rdPs (x0 - k) s' b').1 = PF ∧ (rdPs (x0 - k) s' b').2 = (sF, bF) ∧ s'.size ≤ 1099511627776) (fun i _ => x0 - (intOf i).toNat)
  case atStart => exact ⟨0, [], none, 0, s0, b0, rfl, HA.out, rfl, Nat.zero_le _, by rw [Nat.sub_zero, HP0.out]; rfl, by rw [Nat.sub_zero, HP0.out], by omega⟩
  case round =>
    obtain ⟨k, P, A, c, s', b', rfl, ha, hpl, hkx, hn1, hn2, hs'⟩ := hrel
    have HA1 := Lib.hid ha
    have HN := Lib.hid (And.intro hn1 hn2)
    subst hpl
    have c1 : wr.cell? ⟨w.heap.size + 1, 1, none⟩ = some (.bool b') := ha.cur.cell 1
    clear ha hn1 hn2 HA HP0
    by_cases hgo : P.length < x0 ∧ b' = false
    · obtain ⟨hk0, rfl⟩ := hgo
      obtain ⟨r, hr⟩ : ∃ r, x0 - P.length = r + 1 := ⟨x0 - P.length - 1, by omega⟩
      have hT := fun W hr => rtext_any (w.heap.size + 1) s' false W hr hs'
      have hz := txI_le s' false
      have hL : (rdPs (r + 1) s' false).1 = (txI s' false).1 :: (rdPs r (txI s' false).2.1 (txI s' false).2.2).1 ∧ (rdPs (r + 1) s' false).2 = (rdPs r (txI s' false).2.1 (txI s' false).2.2).2 := by
        simp only [rdPs]
        simp
      generalize txI s' false = tt at *
      obtain ⟨t, s2, b2⟩ := tt
      simp only at hz hT hL
      have HT := Lib.hid hT
      have HL := Lib.hid hL
      have hq : (P.length : Int) < (x0 : Int) := by omega
      have hr2 : x0 - (P.length + 1) = r := by omega
      have HR := Lib.hid (And.intro hr hr2)
      have HO := Lib.hid HA1.out.prow
      have d0 : wr.cell? ⟨w.heap.size + 2, 0, none⟩ = some (.slice A P.length c) := HA1.out.blk.cell 0
      have f0 : wr.frozen? ⟨w.heap.size + 2, 0, none⟩ = false := HA1.out.blk.frozen 0
      have hl2 : w.heap.size + 2 < wr.heap.size := HA1.out.blk.lt
      clear hT hL hr hr2
      go_upto_region 7 with fail
      go_region_law (first
        | (go_simp; go_at_call 33; refine (HT.out _ HA1.out.cur.drew).mono ?_; rintro e wT ⟨rfl, hrT, hgT⟩; have hAT := (HA1.out.below (Below.refl _ _).drew).read hrT hgT; have cT : wT.cell? ⟨w.heap.size + 2, 0, none⟩ = some (.slice A P.length c) := hAT.blk.cell 0; have hltT := hAT.blk.lt)
        | (refine step_append_lies _ (by rfl) _ _ _ (by rfl) (w.heap.size + 3) 9 i0 _ 1 16 Try.underlying25 hi0 hz0' hz1 hz2 rfl (by decide) (.slice A P.length c) P.length (strsV P) (by rfl) (hAT.prow.alloc _) ⟨wT.heap.size, 0, none⟩ 1 1 [.string t] (by rfl) (by rfl) (World.news_of_block (cs := #[.string t]) (heap_alloc_new wT _)) (by simp [Value.oneCell']) (by decide) (by unfold maxLen; omega) (by omega) (by have := hAT.sz; simp; omega) _ rfl ?_; intro g cap w5 hown5 hg5 hat hlt; have hA5 := (hAT.below ((Below.refl _ _).alloc (Nat.le_refl _) (.cells #[.string t] 9))); have hM5 := hA5.blk.grown hg5 (own_ne hA5.prow (by omega)); have c5 : w5.cell? ⟨w.heap.size + 2, 0, none⟩ = some (.slice A P.length c) := hM5.cell 0; have f5 := hM5.frozen 0))
      all_goals
        have HA5 := Lib.hid (hA5.pack hown5 hg5 (by
          rcases hat with h | h
          · exact .inl h
          · exact .inr (.inr h)))
        clear hg5 hat hlt hM5 hA5 hAT hrT hgT hown5
        go_wp2
        go_roundw
        case rel => exact ⟨P.length + 1, P ++ [t], some ⟨g, 0, none⟩, cap, s2, b2, by go_num, HA5.out, by simp, by omega, by
          have := HN.out.1
          rw [HR.out.1, HL.out.1] at this
          rw [HR.out.2, List.append_assoc, List.singleton_append]
          exact this, by
          have := HN.out.2
          rw [HR.out.1, HL.out.2] at this
          rw [HR.out.2]
          exact this, by omega⟩
        case measure => simp [intOf]; omega
    · have hend : rdPs (x0 - P.length) s' b' = ([], s', b') := by
        cases hr : x0 - P.length with
        | zero => rfl
        | succ r => simp only [rdPs]; rw [if_pos (by
            cases b'
            · exact absurd ⟨by omega, rfl⟩ hgo
            · rfl)]
      have hfin := HN.out
      rw [hend] at hfin
      simp only [List.append_nil, Prod.mk.injEq] at hfin
      obtain ⟨rfl, rfl, rfl⟩ := hfin
      have hkb : ¬ (P.length : Int) < (x0 : Int) ∨ ((P.length : Int) < (x0 : Int) ∧ b' = true) := by
        by_cases h : P.length < x0
        · refine .inr ⟨by omega, ?_⟩
          cases b'
          · exact absurd ⟨h, rfl⟩ hgo
          · rfl
        · exact .inl (by omega)
      clear hend HN hgo
      rcases hkb with hkb | ⟨hkb, rfl⟩
      all_goals
        go_wp2_with fail
        refine (HN1.out _ HA1.out.cur).mono ?_
        rintro e w2 ⟨rfl, hr2, hg2⟩
        have HA2 := Lib.hid (HA1.out.read hr2 hg2)
        clear hr2 hg2 c1 HA1 HN1 hkb
        obtain ⟨wq, rfl⟩ : ∃ wq : World, wq = wr := ⟨_, rfl⟩
        go_wp2
        go_loopw [8] (fun i wy => ∃ (j : Nat) (acc : List Pl) (B : Option Addr) (d : Nat) (s'' : ByteArray) (b'' : Bool), i = .int .i64 (j : Nat) ∧ RdAt w wy P A c acc B d s'' b'' ∧ acc.length = j ∧ j ≤ xm ∧ dec2 s P (xm - j) acc s'' b'' ∧ s''.size ≤ 1099511627776) (fun i _ => xm - (intOf i).toNat)
        case atStart => exact ⟨0, [], none, 0, s1, b1, rfl, HA2.out, rfl, Nat.zero_le _, HD2.out, by omega⟩
        case round =>
          obtain ⟨j, acc, B, d, s'', b'', rfl, ha, haj, hax, hd2, hs''⟩ := hrel
          have HAJ := Lib.hid haj
          have hal : acc.length ≤ 4294967295 := by omega
          clear haj
          have HA := Lib.hid ha
          have HD := Lib.hid hd2
          have c1 : wr.cell? ⟨w.heap.size + 1, 1, none⟩ = some (.bool b'') := ha.cur.cell 1
          clear ha hd2 HA2 HD2
          by_cases hgo : j < xm ∧ b'' = false
          · obtain ⟨hj0, rfl⟩ := hgo
            obtain ⟨rn, hrn⟩ : ∃ rn, xm - j = rn + 1 := ⟨xm - j - 1, by omega⟩
            have hrn2 : xm - (j + 1) = rn := by omega
            have HRN := Lib.hid (And.intro hrn hrn2)
            have HDC := Lib.hid (show (dupP P = true → decI s = none) ∧ (dupP P = false → decI s = decQ P (rn + 1) (lastN acc) acc s'') by
              have := HD.out
              unfold dec2 at this
              rw [hrn] at this
              constructor
              · intro h; rw [this, if_pos (Or.inr h)]
              · intro h; rw [this, if_neg (by rw [h]; simp)])
            have hstep := decQ_step (packs := P) rn (last := lastN acc) acc (s := s'')
            have href := decQ_ref (packs := P) rn (last := lastN acc) acc (s := s'')
            obtain ⟨t1, t2⟩ := txI_le s'' false
            rcases e0 : txI s'' false with ⟨nm, s0', b0'⟩
            rcases e1 : numI s0' b0' with ⟨x1, s1', b1'⟩
            rcases e2 : numI s1' b1' with ⟨x2, s2', b2'⟩
            rcases e3 : numI s2' b2' with ⟨x3, s3', b3'⟩
            rcases e4 : numI s3' b3' with ⟨x4, s4', b4'⟩
            rcases e5 : numI s4' b4' with ⟨x5, s5', b5'⟩
            rcases e6 : numI s5' b5' with ⟨x6, s6', b6'⟩
            have hrd : rdH s'' false = (⟨nm, x2, x3, x4, x5, x6⟩, x1, s6', b6') := by
              unfold rdH
              simp only [e0, e1, e2, e3, e4, e5, e6]
            have z1 := numI_le s0' b0'
            have z2 := numI_le s1' b1'
            have z3 := numI_le s2' b2'
            have z4 := numI_le s3' b3'
            have z5 := numI_le s4' b4'
            have z6 := numI_le s5' b5'
            rw [e0] at t1 t2
            rw [e1] at z1
            rw [e2] at z2
            rw [e3] at z3
            rw [e4] at z4
            rw [e5] at z5
            rw [e6] at z6
            simp only at t1 t2 z1 z2 z3 z4 z5 z6
            have C0 := Lib.hid fun W hr => rtext_any (w.heap.size + 1) s'' false W hr hs''
            have C1 := Lib.hid fun W hr => rnum_any (w.heap.size + 1) s0' b0' W hr (by omega)
            have C2 := Lib.hid fun W hr => rnum_any (w.heap.size + 1) s1' b1' W hr (by omega)
            have C3 := Lib.hid fun W hr => rnum_any (w.heap.size + 1) s2' b2' W hr (by omega)
            have C4 := Lib.hid fun W hr => rnum_any (w.heap.size + 1) s3' b3' W hr (by omega)
            have C5 := Lib.hid fun W hr => rnum_any (w.heap.size + 1) s4' b4' W hr (by omega)
            have C6 := Lib.hid fun W hr => rnum_any (w.heap.size + 1) s5' b5' W hr (by omega)
            rw [e0] at C0
            rw [e1] at C1
            rw [e2] at C2
            rw [e3] at C3
            rw [e4] at C4
            rw [e5] at C5
            rw [e6] at C6
            rw [hrd] at hstep href
            have HSP := Lib.hid hstep
            have HRF := Lib.hid href
            have hq : (j : Int) < (xm : Int) := by omega
            have hx1 : (x1 : Int) ≤ 4294967295 := by omega
            have hx3 : (x3 : Int) ≤ 4294967295 := by omega
            have hw3 : IntKind.u32.wrap (x3 : Int) = (x3 : Int) := IntWalk.u32_in _ (by omega)
            have hnz : nm.size ≤ 1099511627776 := by omega
            have hsz6 : s6'.size ≤ 1099511627776 := by omega
            have HP0 := Lib.hid (PlAt.made HA.out)
            clear e0 e1 e2 e3 e4 e5 e6 hrd hstep href t1 t2 z1 z2 z3 z4 z5 z6 hrn hrn2 HD
            go_wp2_with fail
            refine (C0.out _ HP0.out.rd.cur).mono ?_
            rintro e v0 ⟨rfl, hr0, hg0⟩
            have hp0 := HP0.out.read hr0 hg0
            have k0 : v0.cell? ⟨wr.heap.size, 1, none⟩ = some (.string ⟨#[]⟩) := hp0.pk.cell 1
            have f0 := hp0.pk.frozen 1
            have HP1 := Lib.hid (hp0.set_ 1 (.string nm))
            clear c1 hp0 hr0 hg0 HP0 HA
            go_wp2_with fail
            refine (C1.out _ HP1.out.rd.cur).mono ?_
            rintro e v1 ⟨rfl, hr1, hg1⟩
            have HP2 := Lib.hid (HP1.out.read hr1 hg1)
            clear hr1 hg1 HP1 k0 f0
            go_wp2_with fail
            refine (C2.out _ HP2.out.rd.cur).mono ?_
            rintro e v2 ⟨rfl, hr2, hg2⟩
            have hp2 := HP2.out.read hr2 hg2
            have k2 : v2.cell? ⟨wr.heap.size, 2, none⟩ = some (.int .i64 0) := hp2.pk.cell 2
            have f2 := hp2.pk.frozen 2
            have HP3 := Lib.hid (hp2.set_ 2 (.int .i64 x2))
            clear hp2 hr2 hg2 HP2
            go_wp2_with fail
            refine (C3.out _ HP3.out.rd.cur).mono ?_
            rintro e v3 ⟨rfl, hr3, hg3⟩
            have hp3 := HP3.out.read hr3 hg3
            have k3 : v3.cell? ⟨wr.heap.size, 3, none⟩ = some (.int .u32 0) := hp3.pk.cell 3
            have f3 := hp3.pk.frozen 3
            have HP4 := Lib.hid (hp3.set_ 3 (.int .u32 x3))
            clear hp3 hr3 hg3 HP3 k2 f2
            go_wp2_with fail
            refine (C4.out _ HP4.out.rd.cur).mono ?_
            rintro e v4 ⟨rfl, hr4, hg4⟩
            have hp4 := HP4.out.read hr4 hg4
            have k4 : v4.cell? ⟨wr.heap.size, 4, none⟩ = some (.int .i64 0) := hp4.pk.cell 4
            have f4 := hp4.pk.frozen 4
            have HP5 := Lib.hid (hp4.set_ 4 (.int .i64 x4))
            clear hp4 hr4 hg4 HP4 k3 f3
            go_wp2_with fail
            refine (C5.out _ HP5.out.rd.cur).mono ?_
            rintro e v5 ⟨rfl, hr5, hg5⟩
            have hp5 := HP5.out.read hr5 hg5
            have k5 : v5.cell? ⟨wr.heap.size, 5, none⟩ = some (.int .i64 0) := hp5.pk.cell 5
            have f5 := hp5.pk.frozen 5
            have HP6 := Lib.hid (hp5.set_ 5 (.int .i64 x5))
            clear hp5 hr5 hg5 HP5 k4 f4
            go_wp2_with fail
            refine (C6.out _ HP6.out.rd.cur).mono ?_
            rintro e v6 ⟨rfl, hr6, hg6⟩
            have hp6 := HP6.out.read hr6 hg6
            have k6 : v6.cell? ⟨wr.heap.size, 6, none⟩ = some (.int .i64 0) := hp6.pk.cell 6
            have f6 := hp6.pk.frozen 6
            have HP7 := Lib.hid (hp6.set_ 6 (.int .i64 x6))
            clear hp6 hr6 hg6 HP6 k5 f5 C0 C1 C2 C3 C4 C5 C6
            go_upto_region 20 with fail
            have hp7 := HP7.out
            simp at hp7
            have HP7' := Lib.hid hp7
            clear HP7 hp7 k6 f6
            generalize v6.setCell ⟨wr.heap.size, 6, none⟩ (.int .i64 x6) = v7 at *
            have p1 : v7.cell? ⟨wr.heap.size, 1, none⟩ = some (.string nm) := HP7'.out.pk.cell 1
            have d0 : v7.cell? ⟨w.heap.size + 2, 0, none⟩ = some (.slice A P.length c) := HP7'.out.rd.blk.cell 0
            have d1 : v7.cell? ⟨w.heap.size + 2, 1, none⟩ = some (.slice B acc.length d) := HP7'.out.rd.blk.cell 1
            have r0 : v7.cell? ⟨w.heap.size, 0, none⟩ = some (.slice none 0 0) := HP7'.out.rd.res.cell 0
            have r1 : v7.cell? ⟨w.heap.size, 1, none⟩ = some (.slice none 0 0) := HP7'.out.rd.res.cell 1
            have rf0 : v7.frozen? ⟨w.heap.size, 0, none⟩ = false := HP7'.out.rd.res.frozen 0
            have rf1 : v7.frozen? ⟨w.heap.size, 1, none⟩ = false := HP7'.out.rd.res.frozen 1
            have HNO := Lib.hid fun (h : refQ P (lastN acc) ((⟨nm, x2, x3, x4, x5, x6⟩ : Hd), x1, s6', b6')) => show decI s = none by
              cases hd : dupP P with
              | true => exact HDC.out.1 hd
              | false => exact (HDC.out.2 hd).trans (HRF.out h)
            have hlt2 : w.heap.size + 2 < v7.heap.size := HP7'.out.rd.blk.lt
            clear hw3 HRF
            by_cases hil : x1 < P.length
            · have hig : decide (P.length ≤ x1) = false := decide_eq_false (by omega)
              have hig2 : ¬ (P.length : Int) ≤ (x1 : Int) := by omega
              have HNM := Lib.hid fun W => named_any nm W hnz
              cases hn : isNameD nm with
              | false =>
                rw [hn] at HNM
                have HF := Lib.hid (HNO.out (Or.inr (Or.inl hn)))
                clear hn HNO
                have HC := Lib.hid fun W (hW : Below v7.heap.size v7 W) => show W.cell? ⟨w.heap.size + 2, 0, none⟩ = some (.slice A P.length c) ∧ W.cell? ⟨wr.heap.size, 1, none⟩ = some (.string nm) from ⟨(HP7'.out.below hW).rd.blk.cell 0, (HP7'.out.below hW).pk.cell 1⟩
                clear r0 r1 rf0 rf1 d1
                refine wp_region_below (by kernel_rfl) (by kernel_rfl) ?_
                repeat
                  first
                    | go_big_quiet_skip
                    | (go_big_quiet_want
                       go_big_quiet_op
                       first
                         | go_big_quiet_on
                         | (refine ⟨_, fun _ _ => rfl, ?_⟩; go_big_quiet_on)
                         | (apply Exists.intro
                            refine ⟨fun W hW => ?_, ?_⟩
                            first
                              | (go_at_call 34; refine (HNM.out W).mono ?_; rintro e w8 ⟨rfl, hb8⟩; exact ⟨rfl, hW.trans (hb8.mono hW.size)⟩)
                              | (obtain ⟨g0, g1⟩ := HC.out W hW; go_simp; done)
                              | (obtain ⟨g0, g1⟩ := HC.out W hW; go_simp; rfl)
                            go_big_quiet_on))
                refine wpQuiet_nil ?_
                intro w8 hb8
                have HP8 := Lib.hid (HP7'.out.below hb8)
                clear hb8
                have r0 : w8.cell? ⟨w.heap.size, 0, none⟩ = some (.slice none 0 0) := HP8.out.rd.res.cell 0
                have r1 : w8.cell? ⟨w.heap.size, 1, none⟩ = some (.slice none 0 0) := HP8.out.rd.res.cell 1
                have rf0 : w8.frozen? ⟨w.heap.size, 0, none⟩ = false := HP8.out.rd.res.frozen 0
                have rf1 : w8.frozen? ⟨w.heap.size, 1, none⟩ = false := HP8.out.rd.res.frozen 1
                go_wp2
                refine bodyPost_ret (v := .tuple #[.agg #[.slice none 0 0, .slice none 0 0], .bool false]) (by simp [results, Try.results18, go_sem, r0, r1]) rfl ?_
                exact rread_none HF.out ((HP8.out.rd.bel.setCell (p := ⟨w.heap.size, 0, none⟩) (Nat.le_refl _) _).setCell (p := ⟨w.heap.size, 1, none⟩) (Nat.le_refl _) _)
              | true =>
                rw [hn] at HNM
                have hnz2 : ¬ nm.size = 0 := by rw [name_size hn]; decide
                rcases Nat.eq_zero_or_pos j with hj00 | hj0p
                · have HD8 := Lib.hid (dec2_next HDC.out HSP.out HNO.out hil hn (by
                    have hac : acc = [] := List.eq_nil_of_length_eq_zero (by rw [HAJ.out, hj00])
                    rw [hac]
                    exact empty_lt (name_size hn)))
                  have HC := Lib.hid fun W (hW : Below v7.heap.size v7 W) => show W.cell? ⟨w.heap.size + 2, 0, none⟩ = some (.slice A P.length c) ∧ W.cell? ⟨wr.heap.size, 1, none⟩ = some (.string nm) from ⟨(HP7'.out.below hW).rd.blk.cell 0, (HP7'.out.below hW).pk.cell 1⟩
                  clear r0 r1 rf0 rf1 d1 d0 p1 hn HNO HSP HDC
                  subst hj00
                  refine wp_region_below (by kernel_rfl) (by kernel_rfl) ?_
                  repeat
                    first
                      | go_big_quiet_skip
                      | (go_big_quiet_want
                         go_big_quiet_op
                         first
                           | go_big_quiet_on
                           | (refine ⟨_, fun _ _ => rfl, ?_⟩; go_big_quiet_on)
                           | (apply Exists.intro
                              refine ⟨fun W hW => ?_, ?_⟩
                              first
                                | (go_at_call 34; refine (HNM.out W).mono ?_; rintro e w8 ⟨rfl, hb8⟩; exact ⟨rfl, hW.trans (hb8.mono hW.size)⟩)
                                | (obtain ⟨g0, g1⟩ := HC.out W hW; go_simp; done)
                                | (obtain ⟨g0, g1⟩ := HC.out W hW; go_simp; rfl)
                              go_big_quiet_on))
                  refine wpQuiet_nil ?_
                  intro w8 hb8
                  have HP8 := Lib.hid (HP7'.out.below hb8)
                  clear hb8
                  obtain ⟨gP, oP, rfl, hgP, hPc⟩ := (own_strs (l := P) HP8.out.rd.prow).1 (by omega)
                  have q0 : w8.cell? ⟨gP, oP + x1, none⟩ = some (.string P[x1]) := hPc x1 _ (List.getElem?_eq_getElem hil)
                  have hget : P.getD x1 ⟨#[]⟩ = P[x1] := by rw [List.getD_eq_getElem?_getD, List.getElem?_eq_getElem hil]; rfl
                  have HGET := Lib.hid hget
                  clear hPc hget
                  generalize P[x1] = pk at *
                  have d0 : w8.cell? ⟨w.heap.size + 2, 0, none⟩ = some (.slice (some ⟨gP, oP, none⟩) P.length c) := HP8.out.rd.blk.cell 0
                  have k0 : w8.cell? ⟨wr.heap.size, 0, none⟩ = some (.string ⟨#[]⟩) := HP8.out.pk.cell 0
                  have kf : w8.frozen? ⟨wr.heap.size, 0, none⟩ = false := HP8.out.pk.frozen 0
                  have hi0 : (0 : Int) ≤ (x1 : Int) := by omega
                  have hi1 : (x1 : Int) < (P.length : Int) := by omega
                  have hi3 : ((x1 : Int)).toNat = x1 := by omega
                  go_upto_region 23 with fail
                  have HP9 := Lib.hid (show PlAt w (w8.setCell ⟨wr.heap.size, 0, none⟩ (.string pk)) wr.heap.size P (some ⟨gP, oP, none⟩) c acc B d s6' b6' #[.string pk, .string nm, .int .i64 x2, .int .u32 x3, .int .i64 x4, .int .i64 x5, .int .i64 x6] from by simpa using HP8.out.set_ 0 (.string pk))
                  clear q0 d0 k0 kf hi0 hi1 hi3 HP8
                  generalize w8.setCell ⟨wr.heap.size, 0, none⟩ (.string pk) = w9 at *
                  have m0 : w9.cell? ⟨wr.heap.size, 0, none⟩ = some (.string pk) := HP9.out.pk.cell 0
                  have m1 : w9.cell? ⟨wr.heap.size, 1, none⟩ = some (.string nm) := HP9.out.pk.cell 1
                  have m2 : w9.cell? ⟨wr.heap.size, 2, none⟩ = some (.int .i64 x2) := HP9.out.pk.cell 2
                  have m3 : w9.cell? ⟨wr.heap.size, 3, none⟩ = some (.int .u32 x3) := HP9.out.pk.cell 3
                  have m4 : w9.cell? ⟨wr.heap.size, 4, none⟩ = some (.int .i64 x4) := HP9.out.pk.cell 4
                  have m5 : w9.cell? ⟨wr.heap.size, 5, none⟩ = some (.int .i64 x5) := HP9.out.pk.cell 5
                  have m6 : w9.cell? ⟨wr.heap.size, 6, none⟩ = some (.int .i64 x6) := HP9.out.pk.cell 6
                  have e1 : w9.cell? ⟨w.heap.size + 2, 1, none⟩ = some (.slice B acc.length d) := HP9.out.rd.blk.cell 1
                  have hl9 : w.heap.size + 2 < w9.heap.size := HP9.out.rd.blk.lt
                  go_wp2_with (at_builtin; refine wpList_app1 rfl _ _ 41 rfl (w.heap.size + 3) 50 Try.underlying41 infoPl rfl (by decide) _ acc.length (plsC acc) rfl HP9.out.rd.lrow _ rfl rfl (by simp [Value.oneCell']) (by omega) (by omega) HP9.out.rd.sz ?_)
                  intro gA capA wA hoA hgA hbA hlA
                  have HR := Lib.hid (HP9.out.rd.place (q := ⟨pk, ⟨nm, x2, x3, x4, x5, x6⟩⟩) (by simpa [plC] using hoA) hgA (by
                    rcases hlA with h | h
                    · exact .inl h
                    · exact .inr (.inl h)))
                  have hkA := HP9.out.rd.blk.grown hgA (own_ne HP9.out.rd.lrow (by omega))
                  have f1 : wA.cell? ⟨w.heap.size + 2, 1, none⟩ = some (.slice B acc.length d) := hkA.cell 1
                  have ff1 := hkA.frozen 1
                  clear hoA hgA hbA hlA hkA m0 m1 m2 m3 m4 m5 m6 e1
                  go_wp2
                  go_roundw
                  case rel => exact ⟨0 + 1, acc ++ [⟨pk, ⟨nm, x2, x3, x4, x5, x6⟩⟩], some ⟨gA, 0, none⟩, capA, s6', b6', by go_num, HR.out, by simp [HAJ.out], by omega, by rw [HRN.out.2]; exact by rw [← HGET.out]; exact HD8.out, by omega⟩
                  case measure => simp [intOf]; omega
                · obtain ⟨q, rfl⟩ : ∃ q, j = q + 1 := ⟨j - 1, by omega⟩
                  have hql : q < acc.length := by rw [HAJ.out]; omega
                  obtain ⟨gB, oB, rfl, hgB, hBc⟩ := (own_pls HP7'.out.rd.lrow).1 (by rw [List.length_map]; omega)
                  have hlast : lastN acc = acc[q].head.name := lastN_eq HAJ.out hql
                  have hck := hBc q (plC acc[q]) (by rw [List.getElem?_map, List.getElem?_eq_getElem hql]; rfl) 1 _ rfl
                  have HC := Lib.hid fun W (hW : Below v7.heap.size v7 W) => show W.cell? ⟨w.heap.size + 2, 0, none⟩ = some (.slice A P.length c) ∧ W.cell? ⟨wr.heap.size, 1, none⟩ = some (.string nm) ∧ W.cell? ⟨w.heap.size + 2, 1, none⟩ = some (.slice (some ⟨gB, oB, none⟩) acc.length d) ∧ W.cell? ⟨gB, oB + q * 7 + 1, none⟩ = some (.string acc[q].head.name) from ⟨(HP7'.out.below hW).rd.blk.cell 0, (HP7'.out.below hW).pk.cell 1, (HP7'.out.below hW).rd.blk.cell 1, (hW.cell (p := ⟨gB, oB + q * 7 + 1, none⟩) hgB).trans hck⟩
                  have hbl : Op.bytesLess acc[q].head.name.toList nm.toList = decide (acc[q].head.name.data.toList < nm.data.toList) := by rw [ba_toList, ba_toList, less_lt]
                  have HLS := Lib.hid hlast
                  clear hck hBc hlast
                  generalize acc[q].head.name = la at *
                  have hq0 : (0 : Int) ≤ (q : Int) := by omega
                  have hq1 : (q : Int) < (acc.length : Int) := by omega
                  have hq3 : ((q : Int)).toNat = q := by omega
                  by_cases hlt : la.data.toList < nm.data.toList
                  · rw [decide_eq_true hlt] at hbl
                    have HD8 := Lib.hid (dec2_next HDC.out HSP.out HNO.out hil hn (by rw [HLS.out]; exact hlt))
                    clear r0 r1 rf0 rf1 d1 d0 p1 hn HNO HSP HDC hlt
                    refine wp_region_below (by kernel_rfl) (by kernel_rfl) ?_
                    repeat
                      first
                        | go_big_quiet_skip
                        | (go_big_quiet_want
                           go_big_quiet_op
                           first
                             | go_big_quiet_on
                             | (refine ⟨_, fun _ _ => rfl, ?_⟩; go_big_quiet_on)
                             | (apply Exists.intro
                                refine ⟨fun W hW => ?_, ?_⟩
                                first
                                  | (go_at_call 34; refine (HNM.out W).mono ?_; rintro e w8 ⟨rfl, hb8⟩; exact ⟨rfl, hW.trans (hb8.mono hW.size)⟩)
                                  | (obtain ⟨g0, g1, g2, g3⟩ := HC.out W hW; go_simp; done)
                                  | (obtain ⟨g0, g1, g2, g3⟩ := HC.out W hW; go_simp; rfl)
                                go_big_quiet_on))
                    refine wpQuiet_nil ?_
                    intro w8 hb8
                    have HP8 := Lib.hid (HP7'.out.below hb8)
                    clear hb8
                    obtain ⟨gP, oP, rfl, hgP, hPc⟩ := (own_strs (l := P) HP8.out.rd.prow).1 (by omega)
                    have q0 : w8.cell? ⟨gP, oP + x1, none⟩ = some (.string P[x1]) := hPc x1 _ (List.getElem?_eq_getElem hil)
                    have hget : P.getD x1 ⟨#[]⟩ = P[x1] := by rw [List.getD_eq_getElem?_getD, List.getElem?_eq_getElem hil]; rfl
                    have HGET := Lib.hid hget
                    clear hPc hget
                    generalize P[x1] = pk at *
                    have d0 : w8.cell? ⟨w.heap.size + 2, 0, none⟩ = some (.slice (some ⟨gP, oP, none⟩) P.length c) := HP8.out.rd.blk.cell 0
                    have k0 : w8.cell? ⟨wr.heap.size, 0, none⟩ = some (.string ⟨#[]⟩) := HP8.out.pk.cell 0
                    have kf : w8.frozen? ⟨wr.heap.size, 0, none⟩ = false := HP8.out.pk.frozen 0
                    have hi0 : (0 : Int) ≤ (x1 : Int) := by omega
                    have hi1 : (x1 : Int) < (P.length : Int) := by omega
                    have hi3 : ((x1 : Int)).toNat = x1 := by omega
                    go_upto_region 23 with fail
                    have HP9 := Lib.hid (show PlAt w (w8.setCell ⟨wr.heap.size, 0, none⟩ (.string pk)) wr.heap.size P (some ⟨gP, oP, none⟩) c acc (some ⟨gB, oB, none⟩) d s6' b6' #[.string pk, .string nm, .int .i64 x2, .int .u32 x3, .int .i64 x4, .int .i64 x5, .int .i64 x6] from by simpa using HP8.out.set_ 0 (.string pk))
                    clear q0 d0 k0 kf hi0 hi1 hi3 HP8
                    generalize w8.setCell ⟨wr.heap.size, 0, none⟩ (.string pk) = w9 at *
                    have m0 : w9.cell? ⟨wr.heap.size, 0, none⟩ = some (.string pk) := HP9.out.pk.cell 0
                    have m1 : w9.cell? ⟨wr.heap.size, 1, none⟩ = some (.string nm) := HP9.out.pk.cell 1
                    have m2 : w9.cell? ⟨wr.heap.size, 2, none⟩ = some (.int .i64 x2) := HP9.out.pk.cell 2
                    have m3 : w9.cell? ⟨wr.heap.size, 3, none⟩ = some (.int .u32 x3) := HP9.out.pk.cell 3
                    have m4 : w9.cell? ⟨wr.heap.size, 4, none⟩ = some (.int .i64 x4) := HP9.out.pk.cell 4
                    have m5 : w9.cell? ⟨wr.heap.size, 5, none⟩ = some (.int .i64 x5) := HP9.out.pk.cell 5
                    have m6 : w9.cell? ⟨wr.heap.size, 6, none⟩ = some (.int .i64 x6) := HP9.out.pk.cell 6
                    have e1 : w9.cell? ⟨w.heap.size + 2, 1, none⟩ = some (.slice (some ⟨gB, oB, none⟩) acc.length d) := HP9.out.rd.blk.cell 1
                    have hl9 : w.heap.size + 2 < w9.heap.size := HP9.out.rd.blk.lt
                    go_wp2_with (at_builtin; refine wpList_app1 rfl _ _ 41 rfl (w.heap.size + 3) 50 Try.underlying41 infoPl rfl (by decide) _ acc.length (plsC acc) rfl HP9.out.rd.lrow _ rfl rfl (by simp [Value.oneCell']) (by omega) (by omega) HP9.out.rd.sz ?_)
                    intro gA capA wA hoA hgA hbA hlA
                    have HR := Lib.hid (HP9.out.rd.place (q := ⟨pk, ⟨nm, x2, x3, x4, x5, x6⟩⟩) (by simpa [plC] using hoA) hgA (by
                      rcases hlA with h | h
                      · exact .inl h
                      · exact .inr (.inl h)))
                    have hkA := HP9.out.rd.blk.grown hgA (own_ne HP9.out.rd.lrow (by omega))
                    have f1 : wA.cell? ⟨w.heap.size + 2, 1, none⟩ = some (.slice (some ⟨gB, oB, none⟩) acc.length d) := hkA.cell 1
                    have ff1 := hkA.frozen 1
                    clear hoA hgA hbA hlA hkA m0 m1 m2 m3 m4 m5 m6 e1
                    go_wp2
                    go_roundw
                    case rel => exact ⟨(q + 1) + 1, acc ++ [⟨pk, ⟨nm, x2, x3, x4, x5, x6⟩⟩], some ⟨gA, 0, none⟩, capA, s6', b6', by go_num, HR.out, by simp [HAJ.out], by omega, by rw [HRN.out.2]; exact by rw [← HGET.out]; exact HD8.out, by omega⟩
                    case measure => simp [intOf]; omega
                  · rw [decide_eq_false hlt] at hbl
                    have HF := Lib.hid (HNO.out (Or.inr (Or.inr (Or.inl (by rw [HLS.out]; exact hlt)))))
                    clear r0 r1 rf0 rf1 d1 d0 p1 hn HNO HSP HDC hlt
                    refine wp_region_below (by kernel_rfl) (by kernel_rfl) ?_
                    repeat
                      first
                        | go_big_quiet_skip
                        | (go_big_quiet_want
                           go_big_quiet_op
                           first
                             | go_big_quiet_on
                             | (refine ⟨_, fun _ _ => rfl, ?_⟩; go_big_quiet_on)
                             | (apply Exists.intro
                                refine ⟨fun W hW => ?_, ?_⟩
                                first
                                  | (go_at_call 34; refine (HNM.out W).mono ?_; rintro e w8 ⟨rfl, hb8⟩; exact ⟨rfl, hW.trans (hb8.mono hW.size)⟩)
                                  | (obtain ⟨g0, g1, g2, g3⟩ := HC.out W hW; go_simp; done)
                                  | (obtain ⟨g0, g1, g2, g3⟩ := HC.out W hW; go_simp; rfl)
                                go_big_quiet_on))
                    refine wpQuiet_nil ?_
                    intro w8 hb8
                    have HP8 := Lib.hid (HP7'.out.below hb8)
                    clear hb8
                    have r0 : w8.cell? ⟨w.heap.size, 0, none⟩ = some (.slice none 0 0) := HP8.out.rd.res.cell 0
                    have r1 : w8.cell? ⟨w.heap.size, 1, none⟩ = some (.slice none 0 0) := HP8.out.rd.res.cell 1
                    have rf0 : w8.frozen? ⟨w.heap.size, 0, none⟩ = false := HP8.out.rd.res.frozen 0
                    have rf1 : w8.frozen? ⟨w.heap.size, 1, none⟩ = false := HP8.out.rd.res.frozen 1
                    go_wp2
                    refine bodyPost_ret (v := .tuple #[.agg #[.slice none 0 0, .slice none 0 0], .bool false]) (by simp [results, Try.results18, go_sem, r0, r1]) rfl ?_
                    exact rread_none HF.out ((HP8.out.rd.bel.setCell (p := ⟨w.heap.size, 0, none⟩) (Nat.le_refl _) _).setCell (p := ⟨w.heap.size, 1, none⟩) (Nat.le_refl _) _)
            · have hig : (P.length : Int) ≤ (x1 : Int) := by omega
              have HF := Lib.hid (HNO.out (Or.inr (Or.inr (Or.inr (by simp only; omega)))))
              clear hil HNO d1 p1
              go_region
              all_goals
                go_wp2
                refine bodyPost_ret (v := .tuple #[.agg #[.slice none 0 0, .slice none 0 0], .bool false]) (by simp [results, Try.results18, go_sem, r0, r1]) rfl ?_
                exact rread_none HF.out ((HP7'.out.rd.bel.drew.setCell (p := ⟨w.heap.size, 0, none⟩) (Nat.le_refl _) _).setCell (p := ⟨w.heap.size, 1, none⟩) (Nat.le_refl _) _)
          · have hkb : ¬ (j : Int) < (xm : Int) ∨ ((j : Int) < (xm : Int) ∧ b'' = true) := by
              by_cases h : j < xm
              · refine .inr ⟨by omega, ?_⟩
                cases b''
                · exact absurd ⟨h, rfl⟩ hgo
                · rfl
              · exact .inl (by omega)
            have HDE := Lib.hid (show decI s = if b'' = true ∨ dupP P = true then none else if s''.size = 0 then some ⟨P, keyed acc⟩ else none by
              have := HD.out
              unfold dec2 at this
              rw [this]
              by_cases hb : b'' = true ∨ dupP P = true
              · rw [if_pos hb, if_pos hb]
              · rw [if_neg hb, if_neg hb]
                have hz : xm - j = 0 := by
                  cases b''
                  · by_cases h : j < xm
                    · exact absurd ⟨h, rfl⟩ hgo
                    · omega
                  · exact absurd (Or.inl rfl) hb
                rw [hz, decQ_zero])
            clear hgo HD
            have d0 : wr.cell? ⟨w.heap.size + 2, 0, none⟩ = some (.slice A P.length c) := HA.out.blk.cell 0
            obtain ⟨wp, rfl⟩ : ∃ wp : World, wp = wr := ⟨_, rfl⟩
            have hkb' : ¬ (j : Int) < (xm : Int) ∨ ((j : Int) < (xm : Int) ∧ b'' = true) := hkb
            clear hkb
            rcases hkb' with hkb | ⟨hkb, hbt⟩
            all_goals
              go_wp2
              try clear hbt
              go_loopw [126] (fun i wy => ∃ (k : Nat), i = .int .i64 (k : Nat) ∧ k ≤ P.length ∧ RdAt w wy P A c acc B d s'' b'' ∧ (∀ j (hj : j < P.length), j < k → numP P P[j] = j)) (fun i _ => P.length - (intOf i).toNat)
              case atStart => exact ⟨0, rfl, Nat.zero_le _, HA.out, fun j _ h => absurd h (Nat.not_lt_zero _)⟩
              case round =>
                obtain ⟨k, rfl, hk, ha, hnu⟩ := hrel
                have HA3 := Lib.hid ha
                have HNU := Lib.hid hnu
                clear ha hnu HA d0
                have d0 : wr.cell? ⟨w.heap.size + 2, 0, none⟩ = some (.slice A P.length c) := HA3.out.blk.cell 0
                have d1 : wr.cell? ⟨w.heap.size + 2, 1, none⟩ = some (.slice B acc.length d) := HA3.out.blk.cell 1
                have r0 : wr.cell? ⟨w.heap.size, 0, none⟩ = some (.slice none 0 0) := HA3.out.res.cell 0
                have r1 : wr.cell? ⟨w.heap.size, 1, none⟩ = some (.slice none 0 0) := HA3.out.res.cell 1
                have rf0 : wr.frozen? ⟨w.heap.size, 0, none⟩ = false := HA3.out.res.frozen 0
                have rf1 : wr.frozen? ⟨w.heap.size, 1, none⟩ = false := HA3.out.res.frozen 1
                by_cases hkl : k < P.length
                · have hst := (own_strs (l := P) HA3.out.prow).1
                  have hst2 := hst
                  obtain ⟨g, o, rfl, hgl, hcell⟩ := hst (by omega)
                  have q0 : wr.cell? ⟨g, o + k, none⟩ = some (.string P[k]) := hcell k _ (List.getElem?_eq_getElem hkl)
                  have HNB := Lib.hid (rnumber_any P acc (some ⟨g, o, none⟩) B c d P[k] wr hst2 (by omega))
                  unfold rixV at HNB
                  have HND := Lib.hid (numP_dup2 hkl)
                  have HNS := Lib.hid fun (h : numP P P[k] = k) => show ∀ j (hj : j < P.length), j < k + 1 → numP P P[j] = j from fun j hj hjk => by
                    by_cases e : j = k
                    · subst e; exact h
                    · exact HNU.out j hj (by omega)
                  have hk0 : (0 : Int) ≤ (k : Int) := by omega
                  have hk1 : (k : Int) < (P.length : Int) := by omega
                  have hk3 : ((k : Int)).toNat = k := by omega
                  clear hst hst2 hcell
                  generalize numP P P[k] = np at *
                  generalize P[k] = pk at *
                  by_cases hnp : np = (k : Int)
                  · have hq : (np != (k : Int)) = false := by simp [hnp]
                    have HNS2 := Lib.hid (HNS.out hnp)
                    clear hnp HNS HND
                    go_wp2_with fail
                    refine HNB.out.mono ?_
                    rintro e w3 ⟨rfl, hb3⟩
                    have HA4 := Lib.hid (HA3.out.below hb3)
                    clear hb3
                    go_wp2
                    go_roundw
                    case rel => exact ⟨k + 1, by go_num, by omega, HA4.out, HNS2.out⟩
                    case measure => simp [intOf]; omega
                  · have hq : (np != (k : Int)) = true := by simp [hnp]
                    have HF := Lib.hid (HDE.out.trans (if_pos (Or.inr (HND.out hnp))))
                    clear hnp HNS HND
                    go_wp2_with fail
                    refine HNB.out.mono ?_
                    rintro e w3 ⟨rfl, hb3⟩
                    have HA4 := Lib.hid (HA3.out.below hb3)
                    clear hb3 r0 r1 rf0 rf1
                    have r0 : w3.cell? ⟨w.heap.size, 0, none⟩ = some (.slice none 0 0) := HA4.out.res.cell 0
                    have r1 : w3.cell? ⟨w.heap.size, 1, none⟩ = some (.slice none 0 0) := HA4.out.res.cell 1
                    have rf0 : w3.frozen? ⟨w.heap.size, 0, none⟩ = false := HA4.out.res.frozen 0
                    have rf1 : w3.frozen? ⟨w.heap.size, 1, none⟩ = false := HA4.out.res.frozen 1
                    go_wp2
                    refine bodyPost_ret (v := .tuple #[.agg #[.slice none 0 0, .slice none 0 0], .bool false]) (by simp [results, Try.results18, go_sem, r0, r1]) rfl ?_
                    exact rread_none HF.out ((HA4.out.bel.setCell (p := ⟨w.heap.size, 0, none⟩) (Nat.le_refl _) _).setCell (p := ⟨w.heap.size, 1, none⟩) (Nat.le_refl _) _)
                · have hek : k = P.length := by omega
                  have hdup : dupP P = false := numP_dup fun j hj => HNU.out j hj (by omega)
                  have e1 : wr.cell? ⟨w.heap.size + 1, 1, none⟩ = some (.bool b'') := HA3.out.cur.cell 1
                  have e0 : wr.cell? ⟨w.heap.size + 1, 0, none⟩ = some (.string s'') := HA3.out.cur.cell 0
                  have HDU := Lib.hid hdup
                  have hlt2 : w.heap.size + 2 < wr.heap.size := HA3.out.blk.lt
                  clear hdup
                  go_upto_region 30 with fail
                  cases b'' with
                  | true =>
                    have HF := Lib.hid (HDE.out.trans (if_pos (Or.inl rfl)))
                    go_region
                    all_goals
                      go_wp2
                      refine bodyPost_ret (v := .tuple #[.agg #[.slice A P.length c, .slice B acc.length d], .bool false]) (by simp [results, Try.results18, go_sem, r0, r1]) rfl ?_
                      exact rread_none HF.out ((HA3.out.bel.drew.setCell (p := ⟨w.heap.size, 0, none⟩) (Nat.le_refl _) _).setCell (p := ⟨w.heap.size, 1, none⟩) (Nat.le_refl _) _)
                  | false =>
                    have hem := toList_isEmpty s''
                    by_cases hz : s''.size = 0
                    · rw [decide_eq_true hz] at hem
                      have HF := Lib.hid ((HDE.out.trans (if_neg (by rw [HDU.out]; simp))).trans (if_pos hz))
                      clear hz
                      go_region
                      all_goals
                        go_wp2
                        refine bodyPost_ret (v := .tuple #[.agg #[.slice A P.length c, .slice B acc.length d], .bool true]) (by simp [results, Try.results18, go_sem, r0, r1]) rfl ?_
                        exact rread_some HF.out HA3.out
                    · rw [decide_eq_false hz] at hem
                      have HF := Lib.hid ((HDE.out.trans (if_neg (by rw [HDU.out]; simp))).trans (if_neg hz))
                      clear hz
                      go_region
                      all_goals
                        go_wp2
                        refine bodyPost_ret (v := .tuple #[.agg #[.slice A P.length c, .slice B acc.length d], .bool false]) (by simp [results, Try.results18, go_sem, r0, r1]) rfl ?_
                        exact rread_none HF.out ((HA3.out.bel.drew.setCell (p := ⟨w.heap.size, 0, none⟩) (Nat.le_refl _) _).setCell (p := ⟨w.heap.size, 1, none⟩) (Nat.le_refl _) _)
end Go.Proofs.Ytopmanmjggcfaaa
