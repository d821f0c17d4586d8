/- A tree's nodes: the program reads one. -/
import Derived.Test.YtaoejgnfoecpfaaDoorNe
import Derived.Deep.RegionLaw
import Derived.Deep.AppendLies
namespace Go.Proofs.YtaoejgnfoecpfaaDoor
open Go.RowKit

/-- the world but for the reader -/
abbrev GoR (g : Nat) (w w' : World) : Prop := Touch (fun k => k = g) w w'
theorem GoR.only {g : Nat} {w w' : World} (h : Only g w w') : GoR g w w' := (Touch.of_grown h.grown).mono fun _k _ e => (Option.some.inj e).symm
theorem GoR.next {g : Nat} {a b c : World} (h : GoR g a b) (k : GoR g b c) : GoR g a c := h.trans k fun _ _ e => e
theorem GoR.far {g : Nat} {a b c : World} {row : Option Nat} (h : GoR g a b) (k : b.grownBy c row) (hr : ∀ j, row = some j → a.heap.size ≤ j) : GoR g a c := h.trans (Touch.of_grown k) fun i hi e => by
  have := hr i e
  omega
/-- a node's chunks lie in this block -/
def NodeBlk (v : Value) (k : Nat) : Prop := ∃ a m t z o n c, v = plaV a m t z (some ⟨k, o, none⟩) n c ∧ 0 < n
theorem NodeIs.keep {w w' : World} {v : Value} {x : Nr} (h : NodeIs w v x) (hs : w.heap.size ≤ w'.heap.size) (hk : ∀ k, NodeBlk v k → k < w.heap.size → w'.heap[k]? = w.heap[k]?) : NodeIs w' v x := by
  rcases h with h | ⟨h, A, c, rfl, h2, h3⟩ | h | h
  · exact .inl h
  · refine .inr (.inl ⟨h, A, c, rfl, fun hl => ?_, h3⟩)
    obtain ⟨g, o, rfl, hg, hc⟩ := h2 hl
    exact ⟨g, o, rfl, Nat.lt_of_lt_of_le hg hs, fun j u hj => (World.cell?_of_block (hk g ⟨_, _, _, _, _, _, _, rfl, hl⟩ hg)).trans (hc j u hj)⟩
  · exact .inr (.inr (.inl h))
  · exact .inr (.inr (.inr h))
theorem NodeIs.blk_lt {w : World} {v : Value} {x : Nr} (h : NodeIs w v x) {k : Nat} (hk : NodeBlk v k) : k < w.heap.size := by
  obtain ⟨a, m, t, z, o, n, c, rfl, hn⟩ := hk
  rcases h with ⟨_, h⟩ | ⟨_, A, c', h, h2, _⟩ | ⟨_, h⟩ | ⟨_, h | ⟨_, h⟩⟩
  · unfold plaV folV at h
    injection h with h1 h2
    exact absurd h1 (by decide)
  · unfold plaV at h
    injection h with _ h
    injection h with h
    simp only [Array.mk.injEq, List.cons.injEq, Value.string.injEq, Value.int.injEq, true_and, and_true, Value.slice.injEq] at h
    obtain ⟨_, _, _, _, rfl, rfl, rfl⟩ := h
    obtain ⟨g, o', e, hg, _⟩ := h2 hn
    injection e with e
    injection e with e1 e2
    omega
  · unfold plaV symV at h
    injection h with h1 h2
    exact absurd h1 (by decide)
  · cases h
  · unfold plaV at h
    injection h with h1 h2
    exact absurd h1 (by decide)
theorem blk_fol {a : ByteArray} {m t : Int} {k : Nat} : ¬ NodeBlk (folV a m t) k := by
  rintro ⟨_, _, _, _, _, _, _, h, _⟩
  unfold plaV folV at h
  injection h with h1 h2
  exact absurd h1 (by decide)
theorem blk_sym {a g : ByteArray} {m t : Int} {k : Nat} : ¬ NodeBlk (symV a m t g) k := by
  rintro ⟨_, _, _, _, _, _, _, h, _⟩
  unfold plaV symV at h
  injection h with h1 h2
  exact absurd h1 (by decide)
theorem blk_nil {k : Nat} : ¬ NodeBlk .nilIface k := by
  rintro ⟨_, _, _, _, _, _, _, h, _⟩
  cases h
theorem blk_pla {a : ByteArray} {m t z : Int} {A : Option Addr} {n c k : Nat} (h : NodeBlk (plaV a m t z A n c) k) : (∃ o, A = some ⟨k, o, none⟩) ∧ 0 < n := by
  obtain ⟨_, _, _, _, o, _, _, h, hn⟩ := h
  unfold plaV at h
  injection h with _ h
  injection h with h
  simp only [Array.mk.injEq, List.cons.injEq, Value.string.injEq, Value.int.injEq, true_and, and_true, Value.slice.injEq] at h
  obtain ⟨_, _, _, _, rfl, rfl, _⟩ := h
  exact ⟨⟨o, rfl⟩, hn⟩
def NNodePost (g : Nat) (s : ByteArray) (e : Nat) (w : World) (r : Ending) (w' : World) : Prop :=
  ∃ v, r = .returned v ∧ RdE w' g (nodeE s e).2.1 (nodeE s e).2.2 ∧ GoR g w w' ∧ (v = .nilIface ∨ ∃ t u, v = .iface t u) ∧ (∀ k, NodeBlk v k → w.heap.size ≤ k) ∧ ((nodeE s e).2.2 = 0 → NodeIs w' v (nodeE s e).1)
theorem own_farE {w : World} {B : Nat} {e : TypeId} {z n : Nat} {v : Value} {xs : List Value} (h : w.ownsRow B e z v n xs) {j : Nat} (hj : j < B) : v.ownBlock = none ∨ v.ownBlock ≠ some j := by
  cases hv : v.ownBlock with
  | none => exact .inl rfl
  | some k =>
    refine .inr fun e => ?_
    have := (h.lt k hv).1
    simp only [Option.some.injEq] at e
    omega
theorem own_neE {w : World} {B : Nat} {e : TypeId} {z n : Nat} {v : Value} {xs : List Value} (h : w.ownsRow B e z v n xs) {j : Nat} (hj : j < B) : some j ≠ v.ownBlock := fun e => by
  have := (h.lt j e.symm).1
  omega
theorem own_nil {w : World} {B : Nat} {t : TypeId} {k n c : Nat} {A : Option Addr} {xs : List Value} (h : w.ownsRow B t k (.slice A n c) n xs) : A = none → c = 0 := by
  rintro rfl
  rcases h.2 with ⟨hv, _⟩ | ⟨g, cap, cur, hv, _⟩
  · injection hv
  · cases hv
theorem chE_len : ∀ (n : Nat) (s : ByteArray) (e : Nat), (chE n s e).1.length ≤ n
  | 0, _, _ => by simp [chE]
  | n + 1, s, e => by
    simp only [chE]
    split
    · simp
    · simp only [List.length_cons]
      have := chE_len n (takE s e 32).2.1 (takE s e 32).2.2
      omega
set_option maxRecDepth 100000 in
set_option maxHeartbeats 6400000 in
theorem nnode_any (g : Nat) (s : ByteArray) (e : Nat) (w : World) (hr : RdE w g s e) (hs : s.size ≤ 1099511627776) :
    Calls Tryd.prog 68 #[.pointer (some ⟨g, 0, none⟩)] w (NNodePost g s e w) := by
  rcases h1 : numE s e with ⟨k, s1, e1⟩
  rcases h2 : numE s1 e1 with ⟨n, s2, e2⟩
  rcases h3 : takE s2 e2 n with ⟨a, s3, e3⟩
  rcases h4 : numE s3 e3 with ⟨m, s4, e4⟩
  rcases h5 : numE s4 e4 with ⟨t, s5, e5⟩
  have hno := nodeE_of h1 h2 h3 h4 h5
  have z1 := numE_le s e
  have z2 := numE_le s1 e1
  have z3 := takE_le s2 e2 n
  have z4 := numE_le s3 e3
  have z5 := numE_le s4 e4
  rw [h1] at z1
  rw [h2] at z2
  rw [h3] at z3
  rw [h4] at z4
  rw [h5] at z5
  simp only at z1 z2 z3 z4 z5
  have C1 := Lib.hid fun W hr => nnum_any g s e W hr (by omega)
  have C2 := Lib.hid fun W hr => nnum_any g s1 e1 W hr (by omega)
  have C3 := Lib.hid fun W hr => ntake_any g s2 e2 n W hr (by omega) (by omega)
  have C4 := Lib.hid fun W hr => nnum_any g s3 e3 W hr (by omega)
  have C5 := Lib.hid fun W hr => nnum_any g s4 e4 W hr (by omega)
  rw [h1] at C1
  rw [h2] at C2
  rw [h3] at C3
  rw [h4] at C4
  rw [h5] at C5
  unfold NNodePost
  rw [hno]
  have HR := Lib.hid hr
  have hs5 : s5.size ≤ 1099511627776 := by omega
  have hk5 : k ≤ 1099511627776 := by omega
  clear h1 h2 h3 h4 h5 z1 z2 z3 z4 z5 hno hr
  go_enter Tryd.func68, Tryd.ntmps68
  go_wp2_with fail
  refine (C1.out _ HR.out).mono ?_
  rintro e w1 ⟨rfl, hr1, ho1⟩
  have HR1 := Lib.hid hr1
  have HG1 := Lib.hid (GoR.only ho1)
  clear hr1 ho1
  go_wp2_with fail
  refine (C2.out _ HR1.out).mono ?_
  rintro e w2 ⟨rfl, hr2, ho2⟩
  have HR2 := Lib.hid hr2
  have HG2 := Lib.hid (HG1.out.next (GoR.only ho2))
  clear hr2 ho2
  go_wp2_with fail
  refine (C3.out _ HR2.out).mono ?_
  rintro e w3 ⟨rfl, hr3, ho3⟩
  have HR3 := Lib.hid hr3
  have HG3 := Lib.hid (HG2.out.next (GoR.only ho3))
  clear hr3 ho3
  go_wp2_with fail
  refine (C4.out _ HR3.out).mono ?_
  rintro e w4 ⟨rfl, hr4, ho4⟩
  have HR4 := Lib.hid hr4
  have HG4 := Lib.hid (HG3.out.next (GoR.only ho4))
  clear hr4 ho4
  go_wp2_with fail
  refine (C5.out _ HR4.out).mono ?_
  rintro e w5 ⟨rfl, hr5, ho5⟩
  have HR5 := Lib.hid hr5
  have HG5 := Lib.hid (HG4.out.next (GoR.only ho5))
  clear hr5 ho5 C1 C2 C3 C4 C5 HR HR1 HR2 HR3 HR4 HG1 HG2 HG3 HG4
  by_cases k1 : k = 1
  · subst k1
    go_wp2
    go_ret
    refine ⟨_, rfl, ?_, HG5.out, .inr ⟨_, _, rfl⟩, (fun _ h => absurd h blk_fol), fun _ => ?_⟩
    · rw [restE_one rfl]; exact HR5.out
    · rw [restE_one rfl]; exact .inl ⟨rfl, rfl⟩
  by_cases k3 : k = 3
  · subst k3
    rcases h6 : numE s5 e5 with ⟨n6, s6, e6⟩
    rcases h7 : takE s6 e6 n6 with ⟨a7, s7, e7⟩
    have z6 := numE_le s5 e5
    have z7 := takE_le s6 e6 n6
    rw [h6] at z6
    rw [h7] at z7
    simp only at z6 z7
    have HX := Lib.hid (restE_three (a := a) (m := m) (t := t) h6 h7)
    have C6 := Lib.hid fun W hr => nnum_any g s5 e5 W hr (by omega)
    have C7 := Lib.hid fun W hr => ntake_any g s6 e6 n6 W hr (by omega) (by omega)
    rw [h6] at C6
    rw [h7] at C7
    clear h6 h7 z6 z7
    go_wp2_with fail
    refine (C6.out _ HR5.out).mono ?_
    rintro e w6 ⟨rfl, hr6, ho6⟩
    have HR6 := Lib.hid hr6
    have HG6 := Lib.hid (HG5.out.next (GoR.only ho6))
    clear hr6 ho6
    go_wp2_with fail
    refine (C7.out _ HR6.out).mono ?_
    rintro e w7 ⟨rfl, hr7, ho7⟩
    have HR7 := Lib.hid hr7
    have HG7 := Lib.hid (HG6.out.next (GoR.only ho7))
    clear hr7 ho7
    go_wp2
    go_ret
    refine ⟨_, rfl, ?_, HG7.out, .inr ⟨_, _, rfl⟩, (fun _ h => absurd h blk_sym), fun _ => ?_⟩
    · rw [HX.out]; exact HR7.out
    · rw [HX.out]; exact .inr (.inr (.inl ⟨rfl, rfl⟩))
  by_cases k2 : k = 2
  · subst k2
    rcases h6 : numE s5 e5 with ⟨z, s6, e6⟩
    rcases h7 : numE s6 e6 with ⟨c7, s7, e7⟩
    rcases h8 : chE c7 s7 e7 with ⟨l8, s8, e8⟩
    have z6 := numE_le s5 e5
    have z7 := numE_le s6 e6
    rw [h6] at z6
    rw [h7] at z7
    simp only at z6 z7
    have HX := Lib.hid (restE_two (a := a) (m := m) (t := t) h6 h7 h8)
    have H8 := Lib.hid h8
    have C6 := Lib.hid fun W hr => nnum_any g s5 e5 W hr (by omega)
    have C7 := Lib.hid fun W hr => nnum_any g s6 e6 W hr (by omega)
    rw [h6] at C6
    rw [h7] at C7
    clear h6 h7 h8
    obtain ⟨i0, hi0, hz0', hz1, hz2⟩ := info_parts infoS
    go_wp2_with fail
    refine (C6.out _ HR5.out).mono ?_
    rintro e w6 ⟨rfl, hr6, ho6⟩
    have HR6 := Lib.hid (Blk.alloc hr6 (.cells #[.string a, .int .i64 m, .int .i64 t, .int .i64 z, .slice none 0 0] 75))
    have HG6 := Lib.hid ((HG5.out.next (GoR.only ho6)).next (Touch.alloc _ w6 (.cells #[.string a, .int .i64 m, .int .i64 t, .int .i64 z, .slice none 0 0] 75)))
    have HP6 := Lib.hid (Blk.new w6 75 #[.string a, .int .i64 m, .int .i64 t, .int .i64 z, .slice none 0 0])
    have hgp : g < w6.heap.size := Blk.lt hr6
    have hwp : w.heap.size ≤ w6.heap.size := (HG5.out.next (GoR.only ho6)).size
    clear hr6 ho6
    go_wp2_with fail
    refine (C7.out _ HR6.out).mono ?_
    rintro e w7 ⟨rfl, hr7, ho7⟩
    have HR7 := Lib.hid hr7
    have HG7 := Lib.hid (HG6.out.next (GoR.only ho7))
    have HP7 := Lib.hid (ho7.far HP6.out (by omega))
    have hz7 : w6.heap.size + 1 ≤ w7.heap.size := by rw [ho7.size]; simp
    clear hr7 ho7 HR6 HG6 HP6 C6 C7 HR5 HG5
    generalize w6.heap.size = p at *
    go_wp2
    go_loopw [8] (fun i wr => ∃ (n : Nat) (acc : List ByteArray) (A : Option Addr) (cur : Nat) (s' : ByteArray) (e' : Nat), i = .int .i64 (n : Nat) ∧ RdE wr g s' e' ∧ Blk wr p 75 #[.string a, .int .i64 m, .int .i64 t, .int .i64 z, .slice A acc.length cur] ∧ wr.ownsRow (p + 1) 9 1 (.slice A acc.length cur) acc.length (strsV acc) ∧ GoR g w wr ∧ l8 = acc ++ (chE n s' e').1 ∧ (s8, e8) = (chE n s' e').2 ∧ acc.length + n ≤ 1099511627776 ∧ s'.size ≤ 1099511627776 ∧ p + 1 ≤ wr.heap.size) (fun i _ => (intOf i).toNat)
    case atStart => exact ⟨c7, [], none, 0, s7, e7, rfl, HR7.out, HP7.out, ⟨rfl, Or.inl ⟨rfl, rfl⟩⟩, HG7.out, by rw [H8.out]; rfl, by rw [H8.out], by simp; omega, by omega, hz7⟩
    case round =>
      obtain ⟨n, acc, A, cur, s', e', rfl, hrr, hpp, hown, hgo, hl1, hl2, hln, hs', hzr⟩ := hrel
      have HRR := Lib.hid hrr
      have HPP := Lib.hid hpp
      have HGO := Lib.hid hgo
      have HL := Lib.hid (And.intro hl1 hl2)
      have c1 : wr.cell? ⟨g, 1, none⟩ = some (.int .i64 e') := Blk.cell hrr 1
      have hpl : p < wr.heap.size := by omega
      clear hrr hpp hgo hl1 hl2 HR7 HG7 HP7 H8 hz7
      by_cases hgo : 0 < n ∧ e' = 0
      · obtain ⟨hn0, rfl⟩ := hgo
        obtain ⟨n, rfl⟩ : ∃ j, n = j + 1 := ⟨n - 1, by omega⟩
        rcases htk : takE s' 0 32 with ⟨tx, s2', e2'⟩
        have hzt := takE_le s' 0 32
        rw [htk] at hzt
        simp only at hzt
        have hT := fun W hr => ntake_any g s' 0 32 W hr (by omega) (by decide)
        rw [htk] at hT
        have HT := Lib.hid hT
        have HLS := Lib.hid (show (chE (n + 1) s' 0).1 = tx :: (chE n s2' e2').1 ∧ (chE (n + 1) s' 0).2 = (chE n s2' e2').2 by
          simp only [chE, htk]
          simp)
        have c4 : wr.cell? ⟨p, 4, none⟩ = some (.slice A acc.length cur) := HPP.out.cell 4
        have hq : (0 : Int) < ((n + 1 : Nat) : Int) := by omega
        clear htk hT
        go_upto_region 13 with fail
        go_region_law (first
          | (go_simp; go_at_call 101; refine (HT.out _ (Blk.drew HRR.out)).mono ?_; rintro e wT ⟨rfl, hrT, hoT⟩; have hmT := hoT.far HPP.out.drew (by omega); have cT : wT.cell? ⟨p, 4, none⟩ = some (.slice A acc.length cur) := hmT.cell 4; have hzT : wr.heap.size ≤ wT.heap.size := Nat.le_of_eq hoT.size.symm; have hltT : p < wT.heap.size := by omega)
          | (refine step_append_lies _ (by rfl) _ _ _ (by rfl) (p + 1) 9 i0 _ 1 16 Tryd.underlying50 hi0 hz0' hz1 hz2 rfl (by decide) (.slice A acc.length cur) acc.length (strsV acc) (by rfl) ((hown.drew.kept hoT.grown (own_farE hown (by omega))).alloc _) ⟨wT.heap.size, 0, none⟩ 1 1 [.string tx] (by rfl) (by rfl) (World.news_of_block (cs := #[.string tx]) (heap_alloc_new wT _)) (by simp [Value.oneCell']) (by decide) (by unfold maxLen; omega) (by omega) (by simp; omega) _ rfl ?_; intro gx cap w5 hown5 hg5 hat hlt; have hM5 := (hmT.alloc (.cells #[.string tx] 9)).grown hg5 (own_neE hown (by omega)); have c5 : w5.cell? ⟨p, 4, none⟩ = some (.slice A acc.length cur) := hM5.cell 4; have f5 := hM5.frozen 4))
        all_goals
          have HM5 := Lib.hid (hM5.set_ 4 (.slice (some ⟨gx, 0, none⟩) (acc.length + 1) cap))
          have HR8 := Lib.hid (((Blk.alloc hrT (.cells #[.string tx] 9)).grown hg5 (own_neE hown (by omega))).far (p := ⟨p, 4, none⟩) (by simp; omega) (.slice (some ⟨gx, 0, none⟩) (acc.length + 1) cap))
          have HG8 := Lib.hid (((((HGO.out.next (Touch.of_below _ ((Below.refl _ wr).drew))).next (GoR.only hoT)).next (Touch.alloc _ wT (.cells #[.string tx] 9))).far hg5 (fun j hj => by have := (hown.lt j hj).1; omega)).trans (Touch.setc w5 p 4 (.slice (some ⟨gx, 0, none⟩) (acc.length + 1) cap)) (fun i hi e => by omega))
          have HO5 := Lib.hid (hown5.kept (Only.set p 4 w5 (.slice (some ⟨gx, 0, none⟩) (acc.length + 1) cap)).grown (own_farE hown5 (by omega)))
          have HZ5 := Lib.hid (show p + 1 ≤ w5.heap.size from Nat.le_trans (by simp; omega) hg5.size)
          clear hM5 hmT hrT hoT hown5 hg5 hat
          go_wp2
          go_roundw
          case rel =>
            refine ⟨n, acc ++ [tx], some ⟨gx, 0, none⟩, cap, s2', e2', by go_num, HR8.out, ?_, ?_, HG8.out, ?_, by rw [← HLS.out.2]; exact HL.out.2, by simp; omega, by omega, by rw [World.size_setCell]; exact HZ5.out⟩
            · have := HM5.out
              simpa using this
            · have := HO5.out
              simpa [strsV] using this
            · rw [List.append_assoc, List.singleton_append, ← HLS.out.1]; exact HL.out.1
          case measure => simp [intOf]
      · have hend : chE n s' e' = ([], s', e') := by
          cases n with
          | zero => rfl
          | succ n => exact chE_bad (fun e => hgo ⟨by omega, e⟩) s' _
        have hfin := HL.out
        rw [hend] at hfin
        simp only [List.append_nil, Prod.mk.injEq] at hfin
        obtain ⟨rfl, rfl, rfl⟩ := hfin
        obtain ⟨m0, m1, m2, m3, m4⟩ := blk5 HPP.out
        have HST := Lib.hid (own_strs (l := l8) hown).1
        have HNL := Lib.hid (own_nil hown)
        have HBK := Lib.hid (show ∀ j o, A = some ⟨j, o, none⟩ → w.heap.size ≤ j from fun j o e => by subst e; have := (hown.lt j rfl).1; omega)
        have hcs : ¬ (0 : Int) < (n : Int) ∨ ((0 : Int) < (n : Int) ∧ ((e8 : Int) == 0) = false) := by
          by_cases h0 : 0 < n
          · exact .inr ⟨by omega, by rw [beq_eq_false_iff_ne]; intro e; exact hgo ⟨h0, by omega⟩⟩
          · exact .inl (by omega)
        clear hend HL hgo hown
        rcases hcs with hq | ⟨hq, hq2⟩
        all_goals
          go_wp2
          go_ret
          refine ⟨_, rfl, ?_, HGO.out, .inr ⟨_, _, rfl⟩, (fun j h => by obtain ⟨⟨o, e⟩, _⟩ := blk_pla h; exact HBK.out j o e), fun _ => ?_⟩
          · rw [HX.out]; exact HRR.out
          · rw [HX.out]; exact .inr (.inl ⟨rfl, _, _, rfl, HST.out, HNL.out⟩)
  · have q1 : ((k : Int) == 1) = false := by rw [beq_eq_false_iff_ne]; omega
    have q2 : ((k : Int) == 2) = false := by rw [beq_eq_false_iff_ne]; omega
    have q3 : ((k : Int) == 3) = false := by rw [beq_eq_false_iff_ne]; omega
    have HX := Lib.hid (restE_no k1 k2 k3 a m t s5 e5)
    have HFA := Lib.hid (nfail_any g e5 3 s5 w5 HR5.out)
    clear k1 k2 k3
    go_wp2_with fail
    refine HFA.out.mono ?_
    rintro e w6 ⟨rfl, hr6, ho6⟩
    have HR6 := Lib.hid hr6
    have HG6 := Lib.hid (HG5.out.next (GoR.only ho6))
    clear hr6 ho6
    go_wp2
    go_ret
    refine ⟨_, rfl, ?_, HG6.out, .inl rfl, (fun _ h => absurd h blk_nil), fun he => ?_⟩
    · rw [HX.out]; exact HR6.out
    · rw [HX.out] at he
      have : failE e5 3 = 0 := he
      unfold failE at this
      split at this <;> omega
end Go.Proofs.YtaoejgnfoecpfaaDoor
