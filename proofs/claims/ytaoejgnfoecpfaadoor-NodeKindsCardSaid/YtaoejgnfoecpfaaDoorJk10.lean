/- Numbers in groups of seven bits: the document's reading, walked. A tree's nodes: the program's reader. A tree's nodes: the program reads one. A tree's nodes: Decode. -/
import Derived.Test.YtaoejgnfoecpfaaDoorJk7
import Derived.Deep.RegionWith
import Derived.Lib.Split
import Derived.Test.YtaoejgnfoecpfaaDoorJk9
import Derived.Deep.RegionLaw
import Derived.Deep.AppendLies
namespace Go.Proofs.YtaoejgnfoecpfaaDoor
set_option linter.unusedVariables false
set_option linter.unusedSimpArgs false
set_option linter.unusedSectionVars false
open Go.RowKit

theorem sum_step (s : ByteArray) (k : Nat) (h : k < s.size) : sumV (s.data.toList.take (k + 1)) = sumV (s.data.toList.take k) + s[k].toNat % 128 * 128 ^ k := by
  have hs : s.data.toList.length = s.size := by simp
  have hl : (s.data.toList.take k).length = k := by rw [List.length_take]; omega
  rw [ba_take s k h, sumV_snoc, hl]
theorem unvar_zero {l : List UInt8} (h : (unvarL l).2 = 0) : unvarL l = (0, 0) := by
  have key : ∀ f i a (l : List UInt8), (unv f i a l).2 = 0 → unv f i a l = (0, 0) := by
    intro f
    induction f with
    | zero => intro i a l _; rfl
    | succ f ih =>
      intro i a l h
      cases l with
      | nil => rfl
      | cons c r =>
        simp only [unv] at h ⊢
        split
        · rfl
        · next g =>
          rw [if_neg g] at h
          split
          · next hc => rw [if_pos hc] at h; simp at h
          · next hc => rw [if_neg hc] at h; exact ih _ _ _ h
  exact key _ _ _ _ h
theorem ref_sum (S P c M : Nat) : (S % M + (c % 128 * (P % M)) % M) % M = (S + c % 128 * P) % M := by
  rw [← Nat.add_mod, Nat.add_mod S, Nat.mul_mod, Nat.mod_mod, ← Nat.mul_mod, ← Nat.add_mod]
theorem ref_step (S P c X U : Nat) (hX : S % 18446744073709551616 = X) (hU : P % 18446744073709551616 = U) : IntKind.u64.wrap ((X : Int) + IntKind.u64.wrap ((c : Int) % 128 * (U : Int))) = (((S + c % 128 * P) % 18446744073709551616 : Nat) : Int) := by
  rw [IntKind.wrap_u64, IntKind.wrap_u64, ← ref_sum, hX, hU]
  simp
theorem ref_unit (P U : Nat) (hU : P % 18446744073709551616 = U) : IntKind.u64.wrap ((U : Int) * 128) = ((128 * P % 18446744073709551616 : Nat) : Int) := by
  rw [IntKind.wrap_u64]
  subst hU
  omega
set_option maxRecDepth 100000 in
set_option maxHeartbeats 1600000 in
theorem refunvar_any (s : ByteArray) (w : World) (hs : s.size ≤ 1099511627776) :
    Calls Tryd.prog 105 #[.string s] w fun e w' => e = .returned (.tuple #[.int .u64 (unvarL s.data.toList).1, .int .i64 (unvarL s.data.toList).2]) ∧ Below w.heap.size w w' := by
  go_enter Tryd.func105, Tryd.ntmps105
  go_wp2
  go_loopw [4] (fun i wr => ∃ n : Nat, i = .int .i64 (n : Nat) ∧ 1 ≤ n ∧ n ≤ 11 ∧ Below w.heap.size w wr ∧ ((unvarL s.data.toList).2 = 0 ∨ n ≤ (unvarL s.data.toList).2)) (fun i _ => 11 - (intOf i).toNat)
  case atStart => exact ⟨1, rfl, Nat.le_refl _, by decide, Below.refl _ _, by omega⟩
  case round =>
    obtain ⟨n, rfl, hn1, hn2, hb, hn⟩ := hrel
    have HN := Lib.hid hn
    have HB := Lib.hid hb
    clear hn hb
    by_cases hc : n ≤ 10 ∧ n ≤ s.size
    · obtain ⟨h10, hsz⟩ := hc
      go_wp2
      go_loop [5, 6, 7] (fun x u i => ∃ k : Nat, k ≤ n ∧ i = .int .i64 (k : Nat) ∧ x = .int .u64 ((sumV (s.data.toList.take k) % 18446744073709551616 : Nat) : Int) ∧ u = .int .u64 ((128 ^ k % 18446744073709551616 : Nat) : Int)) (fun _ _ i => n - (intOf i).toNat)
      case atStart => exact ⟨0, Nat.zero_le _, rfl, rfl, rfl⟩
      case round =>
        obtain ⟨k, hk, rfl, rfl, rfl⟩ := hrel
        by_cases hkn : k < n
        · have hlt : k < s.size := by omega
          have HS := Lib.hid (sum_step s k hlt)
          have hc := s[k].toNat_lt
          generalize hX : sumV (s.data.toList.take k) % 18446744073709551616 = X
          generalize hU : 128 ^ k % 18446744073709551616 = U
          have HXU := Lib.hid (And.intro hX hU)
          clear hX hU
          go_wp2
          go_round
          case rel =>
            obtain ⟨hX, hU⟩ := HXU.out
            refine ⟨k + 1, by omega, by go_num, ?_, ?_⟩
            · rw [ref_step _ _ _ _ _ hX hU, HS.out]
            · rw [ref_unit _ _ hU, pow128]
          case measure => simp [intOf]; omega
        · obtain rfl : k = n := by omega
          have hlt : sumV (s.data.toList.take k) % 18446744073709551616 < 18446744073709551616 := Nat.mod_lt _ (by decide)
          have HMISS := Lib.hid (fun h => try_miss (l := s.data.toList) (n := k) h (by omega))
          have HHIT := Lib.hid (fun h => try_hit (l := s.data.toList) (n := k) (y := sumV (s.data.toList.take k) % 18446744073709551616) hlt h (by simp; exact hsz))
          have HEXT := Lib.hid (show (s.extract 0 k).data.toList = s.data.toList.take k from Lib.extract_from_zero s k)
          generalize sumV (s.data.toList.take k) % 18446744073709551616 = X at *
          have HLT := Lib.hid hlt
          clear hlt
          have HR := Lib.hid fun W => refvar_any X W HLT.out
          have hk0 : (0 : Int) ≤ (k : Int) := by omega
          have hk1 : (k : Int) ≤ (s.size : Int) := by omega
          cases hq : (varL X == (s.extract 0 k).toList) with
          | true =>
            have HF := Lib.hid (show unvarL s.data.toList = (X, k) by
              refine HHIT.out ?_
              have := eq_of_beq hq
              rw [ba_toList, HEXT.out] at this
              exact this)
            go_wp2
            go_region_with (go_at_call 106; refine (HR.out _).mono ?_; rintro e w4 ⟨rfl, hb4⟩)
            all_goals
              go_wp2
              go_ret2
              exact ⟨ret_2 (by rw [HF.out]) (by rw [HF.out]), HB.out.drew.trans (hb4.mono HB.out.drew.size)⟩
          | false =>
            have HF := Lib.hid (show (unvarL s.data.toList).2 ≠ k by
              refine HMISS.out fun e => ?_
              rw [ba_toList, HEXT.out, e] at hq
              simp at hq)
            go_wp2
            go_region_with (go_at_call 106; refine (HR.out _).mono ?_; rintro e w4 ⟨rfl, hb4⟩)
            all_goals
              go_wp2
              go_roundw
              case rel => exact ⟨k + 1, by go_num, by omega, by omega, HB.out.drew.trans (hb4.mono HB.out.drew.size), by have := HN.out; have := HF.out; omega⟩
              case measure => simp [intOf]; omega
    · have HF := Lib.hid (show unvarL s.data.toList = (0, 0) by
        have h1 := unvar_le s.data.toList
        have h2 : s.data.toList.length = s.size := by simp
        exact unvar_zero (by have := HN.out; omega))
      rcases (by omega : ¬ n ≤ 10 ∨ (n ≤ 10 ∧ ¬ n ≤ s.size)) with h1 | ⟨h1, h2⟩
      all_goals
        clear hc
        go_wp2
        go_ret2
        exact ⟨ret_2 (by rw [HF.out]; rfl) (by rw [HF.out]; rfl), HB.out⟩
end Go.Proofs.YtaoejgnfoecpfaaDoor
namespace Go.Proofs.YtaoejgnfoecpfaaDoor
set_option linter.unusedVariables false
set_option linter.unusedSimpArgs false
set_option linter.unusedSectionVars false
open Go.RowKit

/-- the reader in its block -/
def RdE (w : World) (g : Nat) (s : ByteArray) (e : Nat) : Prop := Blk w g 109 #[.string s, .int .i64 e]
theorem RdE.same {w : World} {g e e' : Nat} {s s' : ByteArray} (h : RdE w g s e) (h1 : s = s') (h2 : e = e') : RdE w g s' e' := by subst h1 h2; exact h
theorem RdE.setE {w : World} {g e : Nat} {s : ByteArray} (h : RdE w g s e) (c : Nat) : RdE (w.setCell ⟨g, 1, none⟩ (.int .i64 c)) g s c := by
  have := Blk.set_ h 1 (.int .i64 c)
  simpa [RdE] using this
theorem RdE.setS {w : World} {g e : Nat} {s : ByteArray} (h : RdE w g s e) (t : ByteArray) : RdE (w.setCell ⟨g, 0, none⟩ (.string t)) g t e := by
  have := Blk.set_ h 0 (.string t)
  simpa [RdE] using this
theorem nfail_any (g e c : Nat) (s : ByteArray) (w : World) (hr : RdE w g s e) :
    Calls Tryd.prog 100 #[.pointer (some ⟨g, 0, none⟩), .int .i64 c] w fun r w' => r = .returned (.tuple #[]) ∧ RdE w' g s (failE e c) ∧ Only g w w' := by
  have h1 : w.cell? ⟨g, 1, none⟩ = some (.int .i64 e) := hr.cell 1
  have f1 : w.frozen? ⟨g, 1, none⟩ = false := hr.frozen 1
  have HR := Lib.hid hr
  clear hr
  by_cases he : e = 0
  · subst he
    have HF := Lib.hid (show c = failE 0 c from rfl)
    go_enter Tryd.func100, Tryd.ntmps100
    go_wp2
    go_end0
    exact ⟨rfl, (HR.out.setE c).same rfl HF.out, Only.set _ _ _ _⟩
  · have hq : ((e : Int) == 0) = false := by rw [beq_eq_false_iff_ne]; omega
    have HF := Lib.hid (show e = failE e c by unfold failE; rw [if_neg he])
    clear he
    go_enter Tryd.func100, Tryd.ntmps100
    go_wp2
    go_end0
    exact ⟨rfl, HR.out.same rfl HF.out, Only.refl _ _⟩
set_option maxRecDepth 100000 in
set_option maxHeartbeats 800000 in
theorem nnum_any (g : Nat) (s : ByteArray) (e : Nat) (w : World) (hr : RdE w g s e) (hs : s.size ≤ 1099511627776) :
    Calls Tryd.prog 67 #[.pointer (some ⟨g, 0, none⟩)] w fun r w' => r = .returned (.int .i64 (numE s e).1) ∧ RdE w' g (numE s e).2.1 (numE s e).2.2 ∧ Only g w w' := by
  have h0 : w.cell? ⟨g, 0, none⟩ = some (.string s) := hr.cell 0
  have h1 : w.cell? ⟨g, 1, none⟩ = some (.int .i64 e) := hr.cell 1
  have f0 : w.frozen? ⟨g, 0, none⟩ = false := hr.frozen 0
  have HR := Lib.hid hr
  by_cases he : e = 0
  · subst he
    have HFA := Lib.hid (nfail_any g 0 3 s w hr)
    have HU := Lib.hid fun W => unvar_any s W hs
    obtain ⟨l1, l2, l3⟩ := unvar_le s.data.toList
    rw [ba_len] at l1
    by_cases h : (unvarL s.data.toList).2 = 0 ∨ 1099511627776 < (unvarL s.data.toList).1
    · have HN := Lib.hid (show numE s 0 = (0, s, 3) by unfold numE; rw [if_neg (by decide), if_pos h])
      generalize (unvarL s.data.toList).1 = x at *
      generalize (unvarL s.data.toList).2 = n at *
      clear hr l3
      have hq : ((n : Int) == 0) = true ∨ (((n : Int) == 0) = false ∧ (1099511627776 : Int) < (x : Int)) := by
        by_cases h0 : n = 0
        · exact .inl (by simp; omega)
        · exact .inr ⟨by simp; omega, by omega⟩
      clear h
      rcases hq with hq | ⟨hq, hq2⟩
      all_goals
        go_enter Tryd.func67, Tryd.ntmps67
        go_wp2_with fail
        refine (HU.out w).mono ?_
        rintro e w1 ⟨rfl, rfl⟩
        go_wp2_with fail
        refine HFA.out.mono ?_
        rintro e w1 ⟨rfl, hr1, ho1⟩
        go_wp2
        go_ret
        exact ⟨ret_int (by rw [HN.out]; rfl), hr1.same (by rw [HN.out]) (by rw [HN.out]; rfl), ho1⟩
    · have HN := Lib.hid (show numE s 0 = ((unvarL s.data.toList).1, s.extract (unvarL s.data.toList).2 s.size, 0) by unfold numE; rw [if_neg (by decide), if_neg h])
      generalize (unvarL s.data.toList).1 = x at *
      generalize (unvarL s.data.toList).2 = n at *
      clear hr l3
      have hq : ((n : Int) == 0) = false := by simp; omega
      have hq2 : decide ((1099511627776 : Int) < (x : Int)) = false := decide_eq_false (by omega)
      have hx : (x : Int) ≤ 1099511627776 := by omega
      have hn1 : (n : Int) ≤ (s.size : Int) := by omega
      clear h
      go_enter Tryd.func67, Tryd.ntmps67
      go_wp2_with fail
      refine (HU.out w).mono ?_
      rintro e w1 ⟨rfl, rfl⟩
      go_wp2
      go_ret
      exact ⟨ret_int (by rw [HN.out]), (HR.out.setS _).same (by rw [HN.out]) (by rw [HN.out]), Only.set _ _ _ _⟩
  · have hq : ((e : Int) != 0) = true := by rw [bne_iff_ne]; omega
    have HN := Lib.hid (numE_bad he s)
    clear he hr
    go_enter Tryd.func67, Tryd.ntmps67
    go_wp2
    go_ret
    exact ⟨ret_int (by rw [HN.out]; rfl), HR.out.same (by rw [HN.out]) (by rw [HN.out]), Only.refl _ _⟩
set_option maxRecDepth 100000 in
set_option maxHeartbeats 800000 in
theorem ntake_any (g : Nat) (s : ByteArray) (e n : Nat) (w : World) (hr : RdE w g s e) (_hs : s.size ≤ 1099511627776) (hn : n ≤ 1099511627776) :
    Calls Tryd.prog 101 #[.pointer (some ⟨g, 0, none⟩), .int .i64 n] w fun r w' => r = .returned (.string (takE s e n).1) ∧ RdE w' g (takE s e n).2.1 (takE s e n).2.2 ∧ Only g w w' := by
  have h0 : w.cell? ⟨g, 0, none⟩ = some (.string s) := hr.cell 0
  have h1 : w.cell? ⟨g, 1, none⟩ = some (.int .i64 e) := hr.cell 1
  have f0 : w.frozen? ⟨g, 0, none⟩ = false := hr.frozen 0
  have HR := Lib.hid hr
  have HFA := Lib.hid (nfail_any g e 6 s w hr)
  clear hr
  by_cases hl : s.size < n
  · have hq : (s.size : Int) < (n : Int) := by omega
    have HN := Lib.hid (show takE s e n = (noB, s, failE e 6) by
      unfold takE failE
      by_cases he : e = 0
      · rw [if_neg (by omega), if_pos hl, if_pos he]
      · rw [if_pos he, if_neg he])
    have hne : (((failE e 6 : Nat) : Int) != 0) = true := by
      unfold failE
      rw [bne_iff_ne]
      split <;> omega
    clear hl
    go_enter Tryd.func101, Tryd.ntmps101
    go_wp2_with fail
    refine HFA.out.mono ?_
    rintro e w1 ⟨rfl, hr1, ho1⟩
    have c1 : w1.cell? ⟨g, 1, none⟩ = some (.int .i64 (failE _ 6 : Nat)) := hr1.cell 1
    have HR1 := Lib.hid hr1
    have HO1 := Lib.hid ho1
    clear hr1 ho1
    go_wp2
    go_ret
    exact ⟨ret_str (by rw [HN.out]; rfl), HR1.out.same (by rw [HN.out]) (by rw [HN.out]), HO1.out⟩
  · have hq : ¬ (s.size : Int) < (n : Int) := by omega
    by_cases he : e = 0
    · subst he
      have HN := Lib.hid (show takE s 0 n = (s.extract 0 n, s.extract n s.size, 0) by unfold takE; rw [if_neg (by decide), if_neg hl])
      clear hl
      go_enter Tryd.func101, Tryd.ntmps101
      go_wp2
      go_ret
      exact ⟨ret_str (by rw [HN.out]), (HR.out.setS _).same (by rw [HN.out]) (by rw [HN.out]), Only.set _ _ _ _⟩
    · have hne : ((e : Int) != 0) = true := by rw [bne_iff_ne]; omega
      have HN := Lib.hid (takE_bad he s n)
      clear hl he
      go_enter Tryd.func101, Tryd.ntmps101
      go_wp2
      go_ret
      exact ⟨ret_str (by rw [HN.out]; rfl), HR.out.same (by rw [HN.out]) (by rw [HN.out]), Only.refl _ _⟩
end Go.Proofs.YtaoejgnfoecpfaaDoor
namespace Go.Proofs.YtaoejgnfoecpfaaDoor
set_option linter.unusedVariables false
set_option linter.unusedSimpArgs false
set_option linter.unusedSectionVars false
open Go.RowKit

/-- the world but for the reader -/
abbrev GoR (g : Nat) (w w' : World) : Prop := Touch (fun k => k = g) w w'
theorem GoR.only {g : Nat} {w w' : World} (h : Only g w w') : GoR g w w' := (Touch.of_grown h.grown).mono fun _k _ e => (Option.some.inj e).symm
theorem GoR.next {g : Nat} {a b c : World} (h : GoR g a b) (k : GoR g b c) : GoR g a c := h.trans k fun _ _ e => e
theorem GoR.far {g : Nat} {a b c : World} {row : Option Nat} (h : GoR g a b) (k : b.grownBy c row) (hr : ∀ j, row = some j → a.heap.size ≤ j) : GoR g a c := h.trans (Touch.of_grown k) fun i hi e => by
  have := hr i e
  omega
/-- a node's chunks lie in this block -/
def NodeBlk (v : Value) (k : Nat) : Prop := ∃ a m t z o n c, v = plaV a m t z (some ⟨k, o, none⟩) n c ∧ 0 < n
theorem NodeIs.keep {w w' : World} {v : Value} {x : Nr} (h : NodeIs w v x) (hs : w.heap.size ≤ w'.heap.size) (hk : ∀ k, NodeBlk v k → k < w.heap.size → w'.heap[k]? = w.heap[k]?) : NodeIs w' v x := by
  rcases h with h | ⟨h, A, c, rfl, h2, h3⟩ | h | h
  · exact .inl h
  · refine .inr (.inl ⟨h, A, c, rfl, fun hl => ?_, h3⟩)
    obtain ⟨g, o, rfl, hg, hc⟩ := h2 hl
    exact ⟨g, o, rfl, Nat.lt_of_lt_of_le hg hs, fun j u hj => (World.cell?_of_block (hk g ⟨_, _, _, _, _, _, _, rfl, hl⟩ hg)).trans (hc j u hj)⟩
  · exact .inr (.inr (.inl h))
  · exact .inr (.inr (.inr h))
theorem NodeIs.blk_lt {w : World} {v : Value} {x : Nr} (h : NodeIs w v x) {k : Nat} (hk : NodeBlk v k) : k < w.heap.size := by
  obtain ⟨a, m, t, z, o, n, c, rfl, hn⟩ := hk
  rcases h with ⟨_, h⟩ | ⟨_, A, c', h, h2, _⟩ | ⟨_, h⟩ | ⟨_, h | ⟨_, h⟩⟩
  · unfold plaV folV at h
    injection h with h1 h2
    exact absurd h1 (by decide)
  · unfold plaV at h
    injection h with _ h
    injection h with h
    simp only [Array.mk.injEq, List.cons.injEq, Value.string.injEq, Value.int.injEq, true_and, and_true, Value.slice.injEq] at h
    obtain ⟨_, _, _, _, rfl, rfl, rfl⟩ := h
    obtain ⟨g, o', e, hg, _⟩ := h2 hn
    injection e with e
    injection e with e1 e2
    omega
  · unfold plaV symV at h
    injection h with h1 h2
    exact absurd h1 (by decide)
  · cases h
  · unfold plaV at h
    injection h with h1 h2
    exact absurd h1 (by decide)
theorem blk_fol {a : ByteArray} {m t : Int} {k : Nat} : ¬ NodeBlk (folV a m t) k := by
  rintro ⟨_, _, _, _, _, _, _, h, _⟩
  unfold plaV folV at h
  injection h with h1 h2
  exact absurd h1 (by decide)
theorem blk_sym {a g : ByteArray} {m t : Int} {k : Nat} : ¬ NodeBlk (symV a m t g) k := by
  rintro ⟨_, _, _, _, _, _, _, h, _⟩
  unfold plaV symV at h
  injection h with h1 h2
  exact absurd h1 (by decide)
theorem blk_nil {k : Nat} : ¬ NodeBlk .nilIface k := by
  rintro ⟨_, _, _, _, _, _, _, h, _⟩
  cases h
theorem blk_pla {a : ByteArray} {m t z : Int} {A : Option Addr} {n c k : Nat} (h : NodeBlk (plaV a m t z A n c) k) : (∃ o, A = some ⟨k, o, none⟩) ∧ 0 < n := by
  obtain ⟨_, _, _, _, o, _, _, h, hn⟩ := h
  unfold plaV at h
  injection h with _ h
  injection h with h
  simp only [Array.mk.injEq, List.cons.injEq, Value.string.injEq, Value.int.injEq, true_and, and_true, Value.slice.injEq] at h
  obtain ⟨_, _, _, _, rfl, rfl, _⟩ := h
  exact ⟨⟨o, rfl⟩, hn⟩
def NNodePost (g : Nat) (s : ByteArray) (e : Nat) (w : World) (r : Ending) (w' : World) : Prop :=
  ∃ v, r = .returned v ∧ RdE w' g (nodeE s e).2.1 (nodeE s e).2.2 ∧ GoR g w w' ∧ (v = .nilIface ∨ ∃ t u, v = .iface t u) ∧ (∀ k, NodeBlk v k → w.heap.size ≤ k) ∧ ((nodeE s e).2.2 = 0 → NodeIs w' v (nodeE s e).1)
theorem own_farE {w : World} {B : Nat} {e : TypeId} {z n : Nat} {v : Value} {xs : List Value} (h : w.ownsRow B e z v n xs) {j : Nat} (hj : j < B) : v.ownBlock = none ∨ v.ownBlock ≠ some j := by
  cases hv : v.ownBlock with
  | none => exact .inl rfl
  | some k =>
    refine .inr fun e => ?_
    have := (h.lt k hv).1
    simp only [Option.some.injEq] at e
    omega
theorem own_neE {w : World} {B : Nat} {e : TypeId} {z n : Nat} {v : Value} {xs : List Value} (h : w.ownsRow B e z v n xs) {j : Nat} (hj : j < B) : some j ≠ v.ownBlock := fun e => by
  have := (h.lt j e.symm).1
  omega
theorem own_nil {w : World} {B : Nat} {t : TypeId} {k n c : Nat} {A : Option Addr} {xs : List Value} (h : w.ownsRow B t k (.slice A n c) n xs) : A = none → c = 0 := by
  rintro rfl
  rcases h.2 with ⟨hv, _⟩ | ⟨g, cap, cur, hv, _⟩
  · injection hv
  · cases hv
theorem chE_len : ∀ (n : Nat) (s : ByteArray) (e : Nat), (chE n s e).1.length ≤ n
  | 0, _, _ => by simp [chE]
  | n + 1, s, e => by
    simp only [chE]
    split
    · simp
    · simp only [List.length_cons]
      have := chE_len n (takE s e 32).2.1 (takE s e 32).2.2
      omega
set_option maxRecDepth 100000 in
set_option maxHeartbeats 6400000 in
theorem nnode_any (g : Nat) (s : ByteArray) (e : Nat) (w : World) (hr : RdE w g s e) (hs : s.size ≤ 1099511627776) :
    Calls Tryd.prog 68 #[.pointer (some ⟨g, 0, none⟩)] w (NNodePost g s e w) := by
  rcases h1 : numE s e with ⟨k, s1, e1⟩
  rcases h2 : numE s1 e1 with ⟨n, s2, e2⟩
  rcases h3 : takE s2 e2 n with ⟨a, s3, e3⟩
  rcases h4 : numE s3 e3 with ⟨m, s4, e4⟩
  rcases h5 : numE s4 e4 with ⟨t, s5, e5⟩
  have hno := nodeE_of h1 h2 h3 h4 h5
  have z1 := numE_le s e
  have z2 := numE_le s1 e1
  have z3 := takE_le s2 e2 n
  have z4 := numE_le s3 e3
  have z5 := numE_le s4 e4
  rw [h1] at z1
  rw [h2] at z2
  rw [h3] at z3
  rw [h4] at z4
  rw [h5] at z5
  simp only at z1 z2 z3 z4 z5
  have C1 := Lib.hid fun W hr => nnum_any g s e W hr (by omega)
  have C2 := Lib.hid fun W hr => nnum_any g s1 e1 W hr (by omega)
  have C3 := Lib.hid fun W hr => ntake_any g s2 e2 n W hr (by omega) (by omega)
  have C4 := Lib.hid fun W hr => nnum_any g s3 e3 W hr (by omega)
  have C5 := Lib.hid fun W hr => nnum_any g s4 e4 W hr (by omega)
  rw [h1] at C1
  rw [h2] at C2
  rw [h3] at C3
  rw [h4] at C4
  rw [h5] at C5
  unfold NNodePost
  rw [hno]
  have HR := Lib.hid hr
  have hs5 : s5.size ≤ 1099511627776 := by omega
  have hk5 : k ≤ 1099511627776 := by omega
  clear h1 h2 h3 h4 h5 z1 z2 z3 z4 z5 hno hr
  go_enter Tryd.func68, Tryd.ntmps68
  go_wp2_with fail
  refine (C1.out _ HR.out).mono ?_
  rintro e w1 ⟨rfl, hr1, ho1⟩
  have HR1 := Lib.hid hr1
  have HG1 := Lib.hid (GoR.only ho1)
  clear hr1 ho1
  go_wp2_with fail
  refine (C2.out _ HR1.out).mono ?_
  rintro e w2 ⟨rfl, hr2, ho2⟩
  have HR2 := Lib.hid hr2
  have HG2 := Lib.hid (HG1.out.next (GoR.only ho2))
  clear hr2 ho2
  go_wp2_with fail
  refine (C3.out _ HR2.out).mono ?_
  rintro e w3 ⟨rfl, hr3, ho3⟩
  have HR3 := Lib.hid hr3
  have HG3 := Lib.hid (HG2.out.next (GoR.only ho3))
  clear hr3 ho3
  go_wp2_with fail
  refine (C4.out _ HR3.out).mono ?_
  rintro e w4 ⟨rfl, hr4, ho4⟩
  have HR4 := Lib.hid hr4
  have HG4 := Lib.hid (HG3.out.next (GoR.only ho4))
  clear hr4 ho4
  go_wp2_with fail
  refine (C5.out _ HR4.out).mono ?_
  rintro e w5 ⟨rfl, hr5, ho5⟩
  have HR5 := Lib.hid hr5
  have HG5 := Lib.hid (HG4.out.next (GoR.only ho5))
  clear hr5 ho5 C1 C2 C3 C4 C5 HR HR1 HR2 HR3 HR4 HG1 HG2 HG3 HG4
  by_cases k1 : k = 1
  · subst k1
    go_wp2
    go_ret
    refine ⟨_, rfl, ?_, HG5.out, .inr ⟨_, _, rfl⟩, (fun _ h => absurd h blk_fol), fun _ => ?_⟩
    · rw [restE_one rfl]; exact HR5.out
    · rw [restE_one rfl]; exact .inl ⟨rfl, rfl⟩
  by_cases k3 : k = 3
  · subst k3
    rcases h6 : numE s5 e5 with ⟨n6, s6, e6⟩
    rcases h7 : takE s6 e6 n6 with ⟨a7, s7, e7⟩
    have z6 := numE_le s5 e5
    have z7 := takE_le s6 e6 n6
    rw [h6] at z6
    rw [h7] at z7
    simp only at z6 z7
    have HX := Lib.hid (restE_three (a := a) (m := m) (t := t) h6 h7)
    have C6 := Lib.hid fun W hr => nnum_any g s5 e5 W hr (by omega)
    have C7 := Lib.hid fun W hr => ntake_any g s6 e6 n6 W hr (by omega) (by omega)
    rw [h6] at C6
    rw [h7] at C7
    clear h6 h7 z6 z7
    go_wp2_with fail
    refine (C6.out _ HR5.out).mono ?_
    rintro e w6 ⟨rfl, hr6, ho6⟩
    have HR6 := Lib.hid hr6
    have HG6 := Lib.hid (HG5.out.next (GoR.only ho6))
    clear hr6 ho6
    go_wp2_with fail
    refine (C7.out _ HR6.out).mono ?_
    rintro e w7 ⟨rfl, hr7, ho7⟩
    have HR7 := Lib.hid hr7
    have HG7 := Lib.hid (HG6.out.next (GoR.only ho7))
    clear hr7 ho7
    go_wp2
    go_ret
    refine ⟨_, rfl, ?_, HG7.out, .inr ⟨_, _, rfl⟩, (fun _ h => absurd h blk_sym), fun _ => ?_⟩
    · rw [HX.out]; exact HR7.out
    · rw [HX.out]; exact .inr (.inr (.inl ⟨rfl, rfl⟩))
  by_cases k2 : k = 2
  · subst k2
    rcases h6 : numE s5 e5 with ⟨z, s6, e6⟩
    rcases h7 : numE s6 e6 with ⟨c7, s7, e7⟩
    rcases h8 : chE c7 s7 e7 with ⟨l8, s8, e8⟩
    have z6 := numE_le s5 e5
    have z7 := numE_le s6 e6
    rw [h6] at z6
    rw [h7] at z7
    simp only at z6 z7
    have HX := Lib.hid (restE_two (a := a) (m := m) (t := t) h6 h7 h8)
    have H8 := Lib.hid h8
    have C6 := Lib.hid fun W hr => nnum_any g s5 e5 W hr (by omega)
    have C7 := Lib.hid fun W hr => nnum_any g s6 e6 W hr (by omega)
    rw [h6] at C6
    rw [h7] at C7
    clear h6 h7 h8
    obtain ⟨i0, hi0, hz0', hz1, hz2⟩ := info_parts infoS
    go_wp2_with fail
    refine (C6.out _ HR5.out).mono ?_
    rintro e w6 ⟨rfl, hr6, ho6⟩
    have HR6 := Lib.hid (Blk.alloc hr6 (.cells #[.string a, .int .i64 m, .int .i64 t, .int .i64 z, .slice none 0 0] 75))
    have HG6 := Lib.hid ((HG5.out.next (GoR.only ho6)).next (Touch.alloc _ w6 (.cells #[.string a, .int .i64 m, .int .i64 t, .int .i64 z, .slice none 0 0] 75)))
    have HP6 := Lib.hid (Blk.new w6 75 #[.string a, .int .i64 m, .int .i64 t, .int .i64 z, .slice none 0 0])
    have hgp : g < w6.heap.size := Blk.lt hr6
    have hwp : w.heap.size ≤ w6.heap.size := (HG5.out.next (GoR.only ho6)).size
    clear hr6 ho6
    go_wp2_with fail
    refine (C7.out _ HR6.out).mono ?_
    rintro e w7 ⟨rfl, hr7, ho7⟩
    have HR7 := Lib.hid hr7
    have HG7 := Lib.hid (HG6.out.next (GoR.only ho7))
    have HP7 := Lib.hid (ho7.far HP6.out (by omega))
    have hz7 : w6.heap.size + 1 ≤ w7.heap.size := by rw [ho7.size]; simp
    clear hr7 ho7 HR6 HG6 HP6 C6 C7 HR5 HG5
    generalize w6.heap.size = p at *
    go_wp2
    go_loopw [8] (fun i wr => ∃ (n : Nat) (acc : List ByteArray) (A : Option Addr) (cur : Nat) (s' : ByteArray) (e' : Nat), i = .int .i64 (n : Nat) ∧ RdE wr g s' e' ∧ Blk wr p 75 #[.string a, .int .i64 m, .int .i64 t, .int .i64 z, .slice A acc.length cur] ∧ wr.ownsRow (p + 1) 9 1 (.slice A acc.length cur) acc.length (strsV acc) ∧ GoR g w wr ∧ l8 = acc ++ (chE n s' e').1 ∧ (s8, e8) = (chE n s' e').2 ∧ acc.length + n ≤ 1099511627776 ∧ s'.size ≤ 1099511627776 ∧ p + 1 ≤ wr.heap.size) (fun i _ => (intOf i).toNat)
    case atStart => exact ⟨c7, [], none, 0, s7, e7, rfl, HR7.out, HP7.out, ⟨rfl, Or.inl ⟨rfl, rfl⟩⟩, HG7.out, by rw [H8.out]; rfl, by rw [H8.out], by simp; omega, by omega, hz7⟩
    case round =>
      obtain ⟨n, acc, A, cur, s', e', rfl, hrr, hpp, hown, hgo, hl1, hl2, hln, hs', hzr⟩ := hrel
      have HRR := Lib.hid hrr
      have HPP := Lib.hid hpp
      have HGO := Lib.hid hgo
      have HL := Lib.hid (And.intro hl1 hl2)
      have c1 : wr.cell? ⟨g, 1, none⟩ = some (.int .i64 e') := Blk.cell hrr 1
      have hpl : p < wr.heap.size := by omega
      clear hrr hpp hgo hl1 hl2 HR7 HG7 HP7 H8 hz7
      by_cases hgo : 0 < n ∧ e' = 0
      · obtain ⟨hn0, rfl⟩ := hgo
        obtain ⟨n, rfl⟩ : ∃ j, n = j + 1 := ⟨n - 1, by omega⟩
        rcases htk : takE s' 0 32 with ⟨tx, s2', e2'⟩
        have hzt := takE_le s' 0 32
        rw [htk] at hzt
        simp only at hzt
        have hT := fun W hr => ntake_any g s' 0 32 W hr (by omega) (by decide)
        rw [htk] at hT
        have HT := Lib.hid hT
        have HLS := Lib.hid (show (chE (n + 1) s' 0).1 = tx :: (chE n s2' e2').1 ∧ (chE (n + 1) s' 0).2 = (chE n s2' e2').2 by
          simp only [chE, htk]
          simp)
        have c4 : wr.cell? ⟨p, 4, none⟩ = some (.slice A acc.length cur) := HPP.out.cell 4
        have hq : (0 : Int) < ((n + 1 : Nat) : Int) := by omega
        clear htk hT
        go_upto_region 13 with fail
        go_region_law (first
          | (go_simp; go_at_call 101; refine (HT.out _ (Blk.drew HRR.out)).mono ?_; rintro e wT ⟨rfl, hrT, hoT⟩; have hmT := hoT.far HPP.out.drew (by omega); have cT : wT.cell? ⟨p, 4, none⟩ = some (.slice A acc.length cur) := hmT.cell 4; have hzT : wr.heap.size ≤ wT.heap.size := Nat.le_of_eq hoT.size.symm; have hltT : p < wT.heap.size := by omega)
          | (refine step_append_lies _ (by rfl) _ _ _ (by rfl) (p + 1) 9 i0 _ 1 16 Tryd.underlying50 hi0 hz0' hz1 hz2 rfl (by decide) (.slice A acc.length cur) acc.length (strsV acc) (by rfl) ((hown.drew.kept hoT.grown (own_farE hown (by omega))).alloc _) ⟨wT.heap.size, 0, none⟩ 1 1 [.string tx] (by rfl) (by rfl) (World.news_of_block (cs := #[.string tx]) (heap_alloc_new wT _)) (by simp [Value.oneCell']) (by decide) (by unfold maxLen; omega) (by omega) (by simp; omega) _ rfl ?_; intro gx cap w5 hown5 hg5 hat hlt; have hM5 := (hmT.alloc (.cells #[.string tx] 9)).grown hg5 (own_neE hown (by omega)); have c5 : w5.cell? ⟨p, 4, none⟩ = some (.slice A acc.length cur) := hM5.cell 4; have f5 := hM5.frozen 4))
        all_goals
          have HM5 := Lib.hid (hM5.set_ 4 (.slice (some ⟨gx, 0, none⟩) (acc.length + 1) cap))
          have HR8 := Lib.hid (((Blk.alloc hrT (.cells #[.string tx] 9)).grown hg5 (own_neE hown (by omega))).far (p := ⟨p, 4, none⟩) (by simp; omega) (.slice (some ⟨gx, 0, none⟩) (acc.length + 1) cap))
          have HG8 := Lib.hid (((((HGO.out.next (Touch.of_below _ ((Below.refl _ wr).drew))).next (GoR.only hoT)).next (Touch.alloc _ wT (.cells #[.string tx] 9))).far hg5 (fun j hj => by have := (hown.lt j hj).1; omega)).trans (Touch.setc w5 p 4 (.slice (some ⟨gx, 0, none⟩) (acc.length + 1) cap)) (fun i hi e => by omega))
          have HO5 := Lib.hid (hown5.kept (Only.set p 4 w5 (.slice (some ⟨gx, 0, none⟩) (acc.length + 1) cap)).grown (own_farE hown5 (by omega)))
          have HZ5 := Lib.hid (show p + 1 ≤ w5.heap.size from Nat.le_trans (by simp; omega) hg5.size)
          clear hM5 hmT hrT hoT hown5 hg5 hat
          go_wp2
          go_roundw
          case rel =>
            refine ⟨n, acc ++ [tx], some ⟨gx, 0, none⟩, cap, s2', e2', by go_num, HR8.out, ?_, ?_, HG8.out, ?_, by rw [← HLS.out.2]; exact HL.out.2, by simp; omega, by omega, by rw [World.size_setCell]; exact HZ5.out⟩
            · have := HM5.out
              simpa using this
            · have := HO5.out
              simpa [strsV] using this
            · rw [List.append_assoc, List.singleton_append, ← HLS.out.1]; exact HL.out.1
          case measure => simp [intOf]
      · have hend : chE n s' e' = ([], s', e') := by
          cases n with
          | zero => rfl
          | succ n => exact chE_bad (fun e => hgo ⟨by omega, e⟩) s' _
        have hfin := HL.out
        rw [hend] at hfin
        simp only [List.append_nil, Prod.mk.injEq] at hfin
        obtain ⟨rfl, rfl, rfl⟩ := hfin
        obtain ⟨m0, m1, m2, m3, m4⟩ := blk5 HPP.out
        have HST := Lib.hid (own_strs (l := l8) hown).1
        have HNL := Lib.hid (own_nil hown)
        have HBK := Lib.hid (show ∀ j o, A = some ⟨j, o, none⟩ → w.heap.size ≤ j from fun j o e => by subst e; have := (hown.lt j rfl).1; omega)
        have hcs : ¬ (0 : Int) < (n : Int) ∨ ((0 : Int) < (n : Int) ∧ ((e8 : Int) == 0) = false) := by
          by_cases h0 : 0 < n
          · exact .inr ⟨by omega, by rw [beq_eq_false_iff_ne]; intro e; exact hgo ⟨h0, by omega⟩⟩
          · exact .inl (by omega)
        clear hend HL hgo hown
        rcases hcs with hq | ⟨hq, hq2⟩
        all_goals
          go_wp2
          go_ret
          refine ⟨_, rfl, ?_, HGO.out, .inr ⟨_, _, rfl⟩, (fun j h => by obtain ⟨⟨o, e⟩, _⟩ := blk_pla h; exact HBK.out j o e), fun _ => ?_⟩
          · rw [HX.out]; exact HRR.out
          · rw [HX.out]; exact .inr (.inl ⟨rfl, _, _, rfl, HST.out, HNL.out⟩)
  · have q1 : ((k : Int) == 1) = false := by rw [beq_eq_false_iff_ne]; omega
    have q2 : ((k : Int) == 2) = false := by rw [beq_eq_false_iff_ne]; omega
    have q3 : ((k : Int) == 3) = false := by rw [beq_eq_false_iff_ne]; omega
    have HX := Lib.hid (restE_no k1 k2 k3 a m t s5 e5)
    have HFA := Lib.hid (nfail_any g e5 3 s5 w5 HR5.out)
    clear k1 k2 k3
    go_wp2_with fail
    refine HFA.out.mono ?_
    rintro e w6 ⟨rfl, hr6, ho6⟩
    have HR6 := Lib.hid hr6
    have HG6 := Lib.hid (HG5.out.next (GoR.only ho6))
    clear hr6 ho6
    go_wp2
    go_ret
    refine ⟨_, rfl, ?_, HG6.out, .inl rfl, (fun _ h => absurd h blk_nil), fun he => ?_⟩
    · rw [HX.out]; exact HR6.out
    · rw [HX.out] at he
      have : failE e5 3 = 0 := he
      unfold failE at this
      split at this <;> omega
end Go.Proofs.YtaoejgnfoecpfaaDoor
namespace Go.Proofs.YtaoejgnfoecpfaaDoor
set_option linter.unusedVariables false
set_option linter.unusedSimpArgs false
set_option linter.unusedSectionVars false
open Go.RowKit

theorem infoNd : (Tryd.prog.info? 35).map (fun i => (i.zero, i.size, i.bytes)) = some (some .nilIface, 1, 16) := by kernel_rfl
/-- what a read of nodes gives -/
def DecNPost (s : ByteArray) (w : World) (r : Ending) (w' : World) : Prop :=
  ∃ A c, r = .returned (.tuple #[.slice A (decN s).1.length c, .int .i64 ((decN s).2 : Nat)]) ∧ NodesA w' A (decN s).1 ∧ Below w.heap.size w w'
/-- the values are those records' nodes, each's chunks in blocks of which P holds -/
def NodesV (w : World) (P : Nat → Prop) (vs : List Value) (l : List Nr) : Prop := ∀ (i : Nat) (x : Nr), l[i]? = some x → ∃ v, vs[i]? = some v ∧ NodeIs w v x ∧ ∀ k, NodeBlk v k → P k
theorem NodesV.keep {w w' : World} {P Q : Nat → Prop} {vs : List Value} {l : List Nr} (h : NodesV w P vs l) (hs : w.heap.size ≤ w'.heap.size) (hk : ∀ k, P k → k < w.heap.size → w'.heap[k]? = w.heap[k]? ∧ Q k) : NodesV w' Q vs l := fun i x hx => by
  obtain ⟨v, h1, h2, h3⟩ := h i x hx
  exact ⟨v, h1, h2.keep hs (fun k hb hl => (hk k (h3 k hb) hl).1), fun k hb => (hk k (h3 k hb) (h2.blk_lt hb)).2⟩
theorem NodesV.snoc {w : World} {P : Nat → Prop} {vs : List Value} {l : List Nr} {v : Value} {x : Nr} (h : NodesV w P vs l) (hl : vs.length = l.length) (h1 : NodeIs w v x) (h2 : ∀ k, NodeBlk v k → P k) : NodesV w P (vs ++ [v]) (l ++ [x]) := fun i y hy => by
  by_cases hi : i < l.length
  · rw [List.getElem?_append_left hi] at hy
    obtain ⟨u, h3, h4⟩ := h i y hy
    exact ⟨u, by rw [List.getElem?_append_left (by omega)]; exact h3, h4⟩
  · have hil := (List.getElem?_eq_some_iff.1 hy).1
    simp only [List.length_append, List.length_singleton] at hil
    have : i = l.length := by omega
    subst this
    rw [List.getElem?_append_right (Nat.le_refl _), Nat.sub_self] at hy
    obtain rfl : x = y := by simpa using hy
    exact ⟨v, by rw [← hl, List.getElem?_append_right (Nat.le_refl _), Nat.sub_self]; rfl, h1, h2⟩
theorem NodesV.row {w : World} {P : Nat → Prop} {vs : List Value} {l : List Nr} {B n c : Nat} {t : TypeId} {A : Option Addr} (h : NodesV w P vs l) (ho : w.ownsRow B t 1 (.slice A n c) n vs) : NodesA w A l := fun hl => by
  rcases ho.2 with ⟨hv, hn⟩ | ⟨g, cap, cur, hv, _⟩
  · obtain ⟨v, h1, _⟩ := h 0 l[0] (List.getElem?_eq_getElem hl)
    have h2 := ho.1
    have h3 := (List.getElem?_eq_some_iff.1 h1).1
    omega
  · simp only [Value.slice.injEq] at hv
    obtain ⟨rfl, _, rfl⟩ := hv
    refine ⟨g, 0, rfl, (ho.lt g rfl).2, fun i x hx => ?_⟩
    obtain ⟨v, h1, h2, _⟩ := h i x hx
    have h3 := own_cell ho h1
    have hadd : (⟨g, 0, none⟩ : Addr).add i = ⟨g, 0 + i, none⟩ := by unfold Addr.add; split <;> simp_all
    rw [hadd] at h3
    exact ⟨v, h3, h2⟩
theorem nodesE_step {n : Nat} {s : ByteArray} : nodesE (n + 1) s 0 = ((nodeE s 0).1 :: (nodesE n (nodeE s 0).2.1 (nodeE s 0).2.2).1, (nodesE n (nodeE s 0).2.1 (nodeE s 0).2.2).2) := by
  simp only [nodesE, ne_eq, not_true, if_false]
theorem nodesE_len : ∀ (n : Nat) (s : ByteArray) (e : Nat), (nodesE n s e).1.length ≤ n
  | 0, _, _ => by simp [nodesE]
  | n + 1, s, e => by
    simp only [nodesE]
    split
    · simp
    · simp only [List.length_cons]
      have := nodesE_len n (nodeE s e).2.1 (nodeE s e).2.2
      omega
theorem cells_one {v : Value} (h : v.oneCell' = true) : v.cells = #[v] := by
  cases v <;> first | rfl | cases h
theorem own_atN {w w' : World} {B : Nat} {e : TypeId} {z n : Nat} {v : Value} {xs : List Value} (h : w.ownsRow B e z v n xs) (he : ∀ i, v.ownBlock = some i → w'.heap[i]? = w.heap[i]?) : w'.ownsRow B e z v n xs := by
  obtain ⟨q1, q2⟩ := h
  refine ⟨q1, q2.imp id ?_⟩
  rintro ⟨g, cap, cur, r1, r2, r3, r4⟩
  exact ⟨g, cap, cur, r1, r2, (he g (by rw [r1]; rfl)).trans r3, r4⟩
theorem NrFit.bnd {x : Nr} (h : NrFit x) : NrB x := by
  obtain ⟨k1, ha, ⟨m1, m2⟩, ⟨t1, t2⟩, h2, hn2, h3, hn3⟩ := h
  by_cases k2 : x.kind = 2
  · obtain ⟨⟨a1, a2⟩, a3, a4⟩ := h2 k2
    have h4 := hn3 (by omega)
    exact ⟨by omega, by rw [h4]; decide, by omega, fun c hc => by rw [a4 c hc]; decide, ⟨by omega, by omega⟩, ⟨by omega, by omega⟩, ⟨by omega, by omega⟩⟩
  · obtain ⟨a1, a2⟩ := hn2 k2
    refine ⟨by omega, ?_, by rw [a2]; decide, (fun c hc => by rw [a2] at hc; cases hc), by rw [a1]; decide, ⟨by omega, by omega⟩, ⟨by omega, by omega⟩⟩
    by_cases k3 : x.kind = 3
    · have := h3 k3; omega
    · rw [hn3 k3]; decide
set_option maxRecDepth 100000 in
set_option maxHeartbeats 6400000 in
theorem ndecode_any (s : ByteArray) (w : World) (he : Env w) (hs : s.size ≤ 1099511627776) :
    Calls Tryd.prog 19 #[.string s] w (DecNPost s w) := by
  rcases h1 : numE s 0 with ⟨n1, s1, e1⟩
  have z1 := numE_le s 0
  rw [h1] at z1
  simp only at z1
  have C1 := Lib.hid fun W hr => nnum_any w.heap.size s 0 W hr hs
  rw [h1] at C1
  have HR0 := Lib.hid (show RdE (w.alloc (.cells #[.string s, .int .i64 0] 109)) w.heap.size s 0 from Blk.new w 109 #[.string s, .int .i64 0])
  have HB0 := Lib.hid ((Below.refl w.heap.size w).alloc (Nat.le_refl _) (.cells #[.string s, .int .i64 0] 109))
  have HE := Lib.hid fun W (hb : Below w.heap.size w W) => he.below hb
  have H1 := Lib.hid h1
  clear h1 he
  go_enter Tryd.func19, Tryd.ntmps19
  go_wp2_with fail
  refine (C1.out _ HR0.out).mono ?_
  rintro e w1 ⟨rfl, hr1, ho1⟩
  have HR1 := Lib.hid hr1
  have HB1 := Lib.hid (ho1.low HB0.out HB0.out.size (Nat.le_refl _))
  have hz1 : w.heap.size + 1 ≤ w1.heap.size := by rw [ho1.size]; simp
  have c1 : w1.cell? ⟨w.heap.size, 1, none⟩ = some (.int .i64 e1) := Blk.cell hr1 1
  clear hr1 ho1 HR0 HB0 C1
  by_cases hbig : e1 = 0 ∧ 200 < n1
  · have HX := Lib.hid (decN_big H1.out hbig)
    obtain ⟨rfl, hn⟩ := hbig
    have hq : (200 : Int) < (n1 : Int) := by omega
    go_wp2
    go_ret2
    unfold DecNPost
    rw [HX.out]
    exact ⟨none, 0, rfl, fun h => absurd h (by simp), HB1.out⟩
  · rcases h2 : nodesE n1 s1 e1 with ⟨l2, s2, e2⟩
    have HX := Lib.hid (decN_of H1.out hbig h2)
    have H2 := Lib.hid h2
    have hnl := nodesE_len n1 s1 e1
    rw [h2] at hnl
    simp only at hnl
    have hcs : ((e1 : Int) == 0) = false ∨ (((e1 : Int) == 0) = true ∧ ¬ (200 : Int) < (n1 : Int)) := by
      by_cases h0 : e1 = 0
      · exact .inr ⟨by rw [beq_iff_eq]; omega, fun h => hbig ⟨h0, by omega⟩⟩
      · exact .inl (by rw [beq_eq_false_iff_ne]; omega)
    clear h2 hbig H1
    rcases hcs with hq | ⟨hq, hq2⟩
    all_goals
      go_wp2
      go_loopw [5, 6] (fun iv ov wr => ∃ (n : Nat) (acc : List Nr) (vs : List Value) (A : Option Addr) (c : Nat) (s' : ByteArray) (e' : Nat), iv = .int .i64 (n : Nat) ∧ ov = .slice A acc.length c ∧ RdE wr w.heap.size s' e' ∧ wr.ownsRow (w.heap.size + 1) 35 1 (.slice A acc.length c) acc.length vs ∧ (e' = 0 → NodesV wr (fun k => k ≠ w.heap.size ∧ (Value.slice A acc.length c).ownBlock ≠ some k) vs acc) ∧ Below w.heap.size w wr ∧ l2 = acc ++ (nodesE n s' e').1 ∧ (s2, e2) = (nodesE n s' e').2 ∧ acc.length + n ≤ 1099511627776 ∧ s'.size ≤ 1099511627776 ∧ w.heap.size + 1 ≤ wr.heap.size) (fun iv _ _ => (intOf iv).toNat)
      case atStart => exact ⟨n1, [], [], none, 0, s1, e1, rfl, rfl, HR1.out, ⟨rfl, Or.inl ⟨rfl, rfl⟩⟩, (fun _ i x hx => by simp at hx), HB1.out, by rw [H2.out]; rfl, by rw [H2.out], by simp; omega, by omega, hz1⟩
      case round =>
        obtain ⟨n, acc, vs, A, c, s', e', rfl, rfl, hrr, hown, hnv, hbb, hl1, hl2, hln, hs', hzr⟩ := hrel
        have HRR := Lib.hid hrr
        have HNV := Lib.hid hnv
        have HBB := Lib.hid hbb
        have HL := Lib.hid (And.intro hl1 hl2)
        have hvl : vs.length = acc.length := by have := hown.1; omega
        have HOW := Lib.hid hown
        have c1 : wr.cell? ⟨w.heap.size, 1, none⟩ = some (.int .i64 e') := Blk.cell hrr 1
        have c0 : wr.cell? ⟨w.heap.size, 0, none⟩ = some (.string s') := Blk.cell hrr 0
        have HN2 := H2
        clear hrr hnv hbb hl1 hl2 hown H2 HR1 HB1
        by_cases hgo : 0 < n ∧ e' = 0
        · obtain ⟨hn0, rfl⟩ := hgo
          obtain ⟨n, rfl⟩ : ∃ j, n = j + 1 := ⟨n - 1, by omega⟩
          have HN := Lib.hid (nnode_any w.heap.size s' 0 wr HRR.out hs')
          have HST := Lib.hid (nodesE_step (n := n) (s := s'))
          have hsz := nodeE_size s' 0
          have hq5 : (0 : Int) < ((n + 1 : Nat) : Int) := by omega
          unfold NNodePost at HN
          generalize nodeE s' 0 = nd at *
          obtain ⟨x, s3, e3⟩ := nd
          simp only at hsz HST HN
          go_wp2_with fail
          refine HN.out.mono ?_
          rintro r w2 ⟨v, rfl, hr2, hg2, hone, hnew, hnd⟩
          have HR2 := Lib.hid hr2
          have HB2 := Lib.hid (HBB.out.trans (hg2.below (B := w.heap.size) HBB.out.size (fun k hk => by omega)))
          have HO2 := Lib.hid (own_atN HOW.out (w' := w2) fun i hi => hg2.block i (HOW.out.lt i hi).2 (by have := (HOW.out.lt i hi).1; omega))
          have HV2 := Lib.hid ((HNV.out (by trivial)).keep (Q := fun k => k ≠ w.heap.size ∧ (Value.slice A acc.length c).ownBlock ≠ some k) hg2.size fun k hk hl => ⟨hg2.block k hl hk.1, hk⟩)
          have HNW := Lib.hid (show ∀ k, NodeBlk v k → k ≠ w.heap.size ∧ (Value.slice A acc.length c).ownBlock ≠ some k from fun k hk => ⟨by have := hnew k hk; omega, fun e => by have h1 := (HOW.out.lt k e).2; have h2 := hnew k hk; omega⟩)
          have HND := Lib.hid hnd
          have hz2 : w.heap.size + 1 ≤ w2.heap.size := Nat.le_trans hzr hg2.size
          clear hr2 hg2 hnew hnd HN
          rcases hone with rfl | ⟨vt, vu, rfl⟩
          all_goals
            go_wp2_with (at_builtin; refine wpList_app1 rfl _ _ 30 rfl (w.heap.size + 1) 35 Tryd.underlying30 infoNd rfl (by decide) _ _ _ rfl HO2.out _ rfl rfl (by simp [Value.oneCell']) (by omega) (by omega) (by omega) ?_)
            intro g5 cap5 w5 ho5 hg5 hb5 hl5
            have HO5 := Lib.hid (show w5.ownsRow (w.heap.size + 1) 35 1 (.slice (some ⟨g5, 0, none⟩) (acc ++ [x]).length cap5) (acc ++ [x]).length (vs ++ [_]) by
              have := ho5
              simpa using this)
            have HB5 := Lib.hid (HB2.out.grown hg5 HB2.out.size fun j hj => by have := (HO2.out.lt j hj).1; omega)
            have HR5 := Lib.hid (show RdE w5 w.heap.size s3 e3 from Blk.grown HR2.out hg5 (own_neE HO2.out (by omega)))
            have HV5 := Lib.hid (show e3 = 0 → NodesV w5 (fun k => k ≠ w.heap.size ∧ (Value.slice (some ⟨g5, 0, none⟩) (acc ++ [x]).length cap5).ownBlock ≠ some k) (vs ++ [_]) (acc ++ [x]) from fun h0 => by
              have h1 := HV2.out.snoc hvl (HND.out h0) HNW.out
              refine h1.keep hg5.size fun k hk hl => ⟨hg5.block k hl (fun e => hk.2 e.symm), hk.1, fun e => ?_⟩
              simp only [Value.ownBlock, Option.some.injEq] at e
              subst e
              rcases hl5 with h | h
              · exact hk.2 h
              · omega)
            have hz5 : w.heap.size + 1 ≤ w5.heap.size := Nat.le_trans hz2 hg5.size
            clear ho5 hg5 hb5 hl5
            go_wp2
            go_roundw
            case rel =>
              refine ⟨n, acc ++ [x], vs ++ [_], some ⟨g5, 0, none⟩, cap5, s3, e3, by go_num, by simp, HR5.out, HO5.out, HV5.out, HB5.out, ?_, ?_, by simp; omega, by omega, hz5⟩
              · rw [List.append_assoc, List.singleton_append]
                have := HL.out.1
                rw [HST.out] at this
                exact this
              · have := HL.out.2
                rw [HST.out] at this
                exact this
            case measure => simp [intOf]
        · have hend : nodesE n s' e' = ([], s', e') := by
            cases n with
            | zero => rfl
            | succ n => exact nodesE_bad (fun e => hgo ⟨by omega, e⟩) s' _
          have hfin := HL.out
          rw [hend] at hfin
          simp only [List.append_nil, Prod.mk.injEq] at hfin
          obtain ⟨rfl, rfl, rfl⟩ := hfin
          have hcs : ¬ (0 : Int) < (n : Int) ∨ ((0 : Int) < (n : Int) ∧ ((e2 : Int) == 0) = false) := by
            by_cases h0 : 0 < n
            · exact .inr ⟨by omega, by rw [beq_eq_false_iff_ne]; intro e; exact hgo ⟨h0, by omega⟩⟩
            · exact .inl (by omega)
          clear hend HL hgo
          by_cases he2 : e2 = 0
          · subst he2
            have hq5 : ¬ (0 : Int) < (n : Int) := hcs.resolve_right fun h => by have := h.2; simp at this
            clear hcs
            have hem := toList_isEmpty s2
            have HBK := Lib.hid (nodesE_back n1 HN2.out (by omega)).2.2.2
            by_cases hz : s2.size = 0
            · rw [decide_eq_true hz] at hem
              have HCK := Lib.hid (ncheck_any l2 A c wr (HE.out _ HBB.out) ((HNV.out (by trivial)).row HOW.out) (fun x hx => (HBK.out x hx).bnd) (by omega))
              by_cases hc : chkN l2 = 0
              · have HD := Lib.hid (show decN s = (l2, 0) by rw [HX.out]; unfold endN; rw [if_neg (by decide), if_neg (by omega), if_neg (by omega)])
                rw [hc] at HCK
                clear hc hz
                go_wp2_with fail
                refine HCK.out.mono ?_
                rintro r w3 ⟨rfl, hb3⟩
                go_wp2
                go_ret2
                unfold DecNPost
                rw [HD.out]
                exact ⟨A, c, rfl, ((HNV.out (by trivial)).row HOW.out).below hb3, HBB.out.trans (hb3.mono HBB.out.size)⟩
              · have HD := Lib.hid (show decN s = ([], chkN l2) by rw [HX.out]; unfold endN; rw [if_neg (by decide), if_neg (by omega), if_pos hc])
                have hne : (((chkN l2 : Nat) : Int) != 0) = true := by rw [bne_iff_ne]; omega
                clear hc hz
                go_wp2_with fail
                refine HCK.out.mono ?_
                rintro r w3 ⟨rfl, hb3⟩
                go_wp2
                go_ret2
                unfold DecNPost
                rw [HD.out]
                exact ⟨none, 0, rfl, fun h => absurd h (by simp), HBB.out.trans (hb3.mono HBB.out.size)⟩
            · rw [decide_eq_false hz] at hem
              have HD := Lib.hid (show decN s = ([], 3) by rw [HX.out]; unfold endN; rw [if_neg (by decide), if_pos hz])
              clear hz
              go_wp2
              go_ret2
              unfold DecNPost
              rw [HD.out]
              exact ⟨none, 0, rfl, fun h => absurd h (by simp), HBB.out⟩
          · have HD := Lib.hid (show decN s = ([], e2) by rw [HX.out]; unfold endN; rw [if_pos he2])
            have hne : ((e2 : Int) != 0) = true := by rw [bne_iff_ne]; omega
            clear he2
            rcases hcs with hq5 | ⟨hq5, hq6⟩
            all_goals
              go_wp2
              go_quiet (fail)
              go_wp2
              go_ret2
              unfold DecNPost
              rw [HD.out]
              exact ⟨none, 0, rfl, fun h => absurd h (by simp), Go.below_drewN HBB.out nq⟩
end Go.Proofs.YtaoejgnfoecpfaaDoor
