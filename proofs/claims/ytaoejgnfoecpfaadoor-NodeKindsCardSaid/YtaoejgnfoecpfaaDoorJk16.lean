/- A tree's nodes: the program's nodes of records. A tree's nodes: records that came in, as nodes of pure records. Of and Told, of any row of chunks. A folder by its address: its method; MustPlain of what is a file. -/
import Derived.Test.YtaoejgnfoecpfaaDoorJk15
namespace Go.Proofs.YtaoejgnfoecpfaaDoor
set_option linter.unusedVariables false
set_option linter.unusedSimpArgs false
set_option linter.unusedSectionVars false
open Go.RowKit

/-- a record cut to 20 chunks -/
def cutN (x : Nr) : Nr := ⟨x.kind, x.at_, x.mode, x.time, x.size, x.chunks.take 20, x.target⟩
/-- rows of records that came in -/
def RecsI (w : World) (A : Option Addr) (l : List Nr) : Prop := 0 < l.length → ∃ g o, A = some ⟨g, o, none⟩ ∧ g < w.heap.size ∧ ∀ (i : Nat) (x : Nr), l[i]? = some x → ∃ B c, (∀ (j : Nat) (u : Value), (recC x B c)[j]? = some u → w.cell? ⟨g, o + i * 7 + j, none⟩ = some u) ∧ StrsA w w.heap.size B x.chunks ∧ x.chunks.length ≤ c ∧ (B = none → c = 0)
theorem RecsI.below {w w' : World} {A : Option Addr} {l : List Nr} (h : RecsI w A l) (hb : Below w.heap.size w w') : RecsI w' A l := fun hl => by
  obtain ⟨g, o, rfl, hg, hc⟩ := h hl
  refine ⟨g, o, rfl, Nat.lt_of_lt_of_le hg hb.size, fun i x hi => ?_⟩
  obtain ⟨B, c, h1, h2, h3, h4⟩ := hc i x hi
  exact ⟨B, c, fun j u hj => (hb.cell (p := ⟨g, o + i * 7 + j, none⟩) hg).trans (h1 j u hj), h2.below hb, h3, h4⟩
theorem node_form {w : World} {v : Value} {x : Nr} (h : NodeIs w v x) : v = .nilIface ∨ ∃ t u, v = .iface t u := by
  rcases h with ⟨_, h⟩ | ⟨_, A, c', h, _, _⟩ | ⟨_, h⟩ | ⟨_, h | ⟨_, h⟩⟩
  · exact .inr ⟨_, _, h⟩
  · exact .inr ⟨_, _, h⟩
  · exact .inr ⟨_, _, h⟩
  · exact .inl h
  · exact .inr ⟨_, _, h⟩
def AllPost (l : List Nr) (w : World) (e : Ending) (w' : World) : Prop :=
  ∃ A c, e = .returned (.slice A ((l.take 210).map cutN).length c) ∧ NodesA w' A ((l.take 210).map cutN) ∧ Below w.heap.size w w'
set_option maxRecDepth 100000 in
set_option maxHeartbeats 3200000 in
theorem all_any (l : List Nr) (A : Option Addr) (c : Nat) (w : World) (h : RecsI w A l) (hl : l.length ≤ 140737488355328) : Calls Tryd.prog 18 #[.slice A l.length c] w (AllPost l w) := by
  have HN := Lib.hid fun W (hb : Below w.heap.size w W) => h.below hb
  clear h
  go_enter Tryd.func18, Tryd.ntmps18
  go_wp2
  have hb0 := (Below.refl w.heap.size w).alloc (Nat.le_refl _) (.cells #[] 35)
  go_loopw [3, 4, 5] (fun ov iv pv wr => ∃ (k : Nat) (vs : List Value) (B : Option Addr) (d : Nat) (u : Value), ov = .slice B k d ∧ iv = .int .i64 (k : Nat) ∧ pv = u ∧ k ≤ l.length ∧ k ≤ 210 ∧ vs.length = k ∧ wr.ownsRow w.heap.size 35 1 (.slice B k d) k vs ∧ NodesV wr (fun j => (Value.slice B k d).ownBlock ≠ some j) vs ((l.take k).map cutN) ∧ Below w.heap.size w wr) (fun _ iv _ _ => l.length - (intOf iv).toNat)
  case atStart => exact ⟨0, [], some ⟨w.heap.size, 0, none⟩, 0, _, rfl, rfl, rfl, Nat.zero_le _, Nat.zero_le _, rfl, own_emptyN (Nat.le_refl _), fun i x hx => by simp at hx, hb0⟩
  case round =>
    obtain ⟨k, vs, B, d, u, rfl, rfl, rfl, hk, hk10, hvl, how, hnv, hbel⟩ := hrel
    have HO := Lib.hid how
    have HV := Lib.hid hnv
    have HB := Lib.hid hbel
    clear how hnv hb0
    by_cases hkl : k < l.length ∧ k < 210
    · obtain ⟨hkl, hk2⟩ := hkl
      obtain ⟨g, o, rfl, hg, hcc⟩ := HN.out wr hbel (by omega)
      obtain ⟨X, cx, hcx, hsx, hlx, hnx⟩ := hcc k l[k] (List.getElem?_eq_getElem hkl)
      have HR2 := Lib.hid (show (l.take (k + 1)).map cutN = (l.take k).map cutN ++ [cutN l[k]] by rw [List.take_succ_eq_append_getElem hkl, List.map_append]; rfl)
      clear hcc hbel
      generalize l[k] = x at *
      obtain ⟨kind, a, m, t, z, ch, tg⟩ := x
      have q0 : wr.cell? ⟨g, o + k * 7, none⟩ = some (.int .i64 kind) := hcx 0 _ rfl
      have q1 : wr.cell? ⟨g, o + k * 7 + 1, none⟩ = some (.string a) := hcx 1 _ rfl
      have q2 : wr.cell? ⟨g, o + k * 7 + 2, none⟩ = some (.int .i64 m) := hcx 2 _ rfl
      have q3 : wr.cell? ⟨g, o + k * 7 + 3, none⟩ = some (.int .i64 t) := hcx 3 _ rfl
      have q4 : wr.cell? ⟨g, o + k * 7 + 4, none⟩ = some (.int .i64 z) := hcx 4 _ rfl
      have q5 : wr.cell? ⟨g, o + k * 7 + 5, none⟩ = some (.slice X ch.length cx) := hcx 5 _ rfl
      have q6 : wr.cell? ⟨g, o + k * 7 + 6, none⟩ = some (.string tg) := hcx 6 _ rfl
      have hk0 : (0 : Int) ≤ (k : Int) := by omega
      have hki : (k : Int) < (l.length : Int) := by omega
      have hk210 : (k : Int) < 210 := by omega
      have hk3 : ((k : Int)).toNat = k := by omega
      clear hcx
      by_cases h20 : 20 < ch.length
      · obtain ⟨bx, ox, rfl, hbx, hcb⟩ := hsx (by show 0 < ch.length; omega)
        have h20i : (20 : Int) < (ch.length : Int) := by omega
        simp only at hlx
        have HT := Lib.hid fun W (hb : Below wr.heap.size wr W) => (by
          have h1 := of_any ⟨kind, a, m, t, z, ch.take 20, tg⟩ (some ⟨bx, ox, none⟩) cx W (StrsA.below (W := wr) (fun _ => ⟨bx, ox, rfl, hbx, fun j u hj => hcb j u (by
            rw [List.getElem?_take] at hj
            split at hj
            · exact hj
            · cases hj)⟩) hb) (fun h => by cases h) (by simp only [List.length_take]; omega)
          unfold recC at h1
          simp only [List.length_take, Nat.min_eq_left (Nat.le_of_lt h20)] at h1
          exact h1 : Calls Tryd.prog 41 #[.agg #[.int .i64 kind, .string a, .int .i64 m, .int .i64 t, .int .i64 z, .slice (some ⟨bx, ox, none⟩) 20 cx, .string tg]] W (OfPost (cutN ⟨kind, a, m, t, z, ch, tg⟩) W))
        clear hcb hsx
        go_wp2_with fail
        refine (HT.out _ (((Below.refl wr.heap.size wr).alloc (Nat.le_refl _) _))).mono ?_
        rintro e w2 ⟨v, rfl, hv2, hnb2, hb2, _, _⟩
        have hb3 : Below wr.heap.size wr w2 := (((Below.refl wr.heap.size wr).alloc (Nat.le_refl _) _)).trans (hb2.mono (by simp))
        have hnw : ∀ j, NodeBlk v j → (Value.slice B k d).ownBlock ≠ some j := fun j hj e => by
          have h1 := hnb2 j hj
          have h2 := (HO.out.lt j e).2
          simp at h1
          omega
        have HO2 := Lib.hid (own_atN HO.out (w' := w2) fun i hi => hb3.block i (HO.out.lt i hi).2)
        have HV2 := Lib.hid (((HV.out.keep (Q := fun j => (Value.slice B k d).ownBlock ≠ some j) hb3.size fun k hk hl => ⟨hb3.block k hl, hk⟩).snoc (by rw [List.length_map, List.length_take]; omega) hv2 hnw))
        have HB2 := Lib.hid (HB.out.trans (hb3.mono HB.out.size))
        have hvf := node_form hv2
        clear hv2 hnb2 hb2 hb3 hnw
        rcases hvf with rfl | ⟨t1, u1, rfl⟩
        all_goals
          go_wp2_with (at_builtin; refine wpList_app1 rfl _ _ 30 rfl w.heap.size 35 Tryd.underlying30 infoNd rfl (by decide) _ _ _ rfl HO2.out _ rfl rfl (by simp [Value.oneCell']) (by omega) (by omega) HB2.out.size ?_)
          intro g5 cap5 w5 ho5 hg5 hb5 hl5
          have HB5 := Lib.hid (HB2.out.grown hg5 HB2.out.size fun j hj => (HO2.out.lt j hj).1)
          have HV5 := Lib.hid (HV2.out.keep (Q := fun j => (Value.slice (some ⟨g5, 0, none⟩) (k + 1) cap5).ownBlock ≠ some j) hg5.size fun j hk hl => ⟨hg5.block j hl (fun e => hk e.symm), fun e => by
            simp only [Value.ownBlock, Option.some.injEq] at e
            subst e
            rcases hl5 with h | h
            · exact hk h
            · omega⟩)
          have HO5 := Lib.hid ho5
          clear ho5 hg5 hb5 hl5
          go_wp2
          go_roundw
          case rel => exact ⟨k + 1, _, some ⟨g5, 0, none⟩, cap5, _, rfl, by go_num, rfl, by omega, by omega, by simp [hvl], HO5.out, by rw [HR2.out]; exact HV5.out, HB5.out⟩
          case measure => simp [intOf]; omega
      · have h20i : ¬ (20 : Int) < (ch.length : Int) := by omega
        have HT := Lib.hid fun W (hb : Below wr.heap.size wr W) => (by
          have h1 := of_any ⟨kind, a, m, t, z, ch, tg⟩ X cx W (hsx.below hb) hnx (by show ch.length ≤ 1000000; omega)
          unfold recC at h1
          have e : cutN ⟨kind, a, m, t, z, ch, tg⟩ = ⟨kind, a, m, t, z, ch, tg⟩ := by unfold cutN; simp only; rw [List.take_of_length_le (by omega)]
          rw [e]
          exact h1 : Calls Tryd.prog 41 #[.agg #[.int .i64 kind, .string a, .int .i64 m, .int .i64 t, .int .i64 z, .slice X ch.length cx, .string tg]] W (OfPost (cutN ⟨kind, a, m, t, z, ch, tg⟩) W))
        clear hsx
        go_wp2_with fail
        refine (HT.out _ (((Below.refl wr.heap.size wr).alloc (Nat.le_refl _) _))).mono ?_
        rintro e w2 ⟨v, rfl, hv2, hnb2, hb2, _, _⟩
        have hb3 : Below wr.heap.size wr w2 := (((Below.refl wr.heap.size wr).alloc (Nat.le_refl _) _)).trans (hb2.mono (by simp))
        have hnw : ∀ j, NodeBlk v j → (Value.slice B k d).ownBlock ≠ some j := fun j hj e => by
          have h1 := hnb2 j hj
          have h2 := (HO.out.lt j e).2
          simp at h1
          omega
        have HO2 := Lib.hid (own_atN HO.out (w' := w2) fun i hi => hb3.block i (HO.out.lt i hi).2)
        have HV2 := Lib.hid (((HV.out.keep (Q := fun j => (Value.slice B k d).ownBlock ≠ some j) hb3.size fun k hk hl => ⟨hb3.block k hl, hk⟩).snoc (by rw [List.length_map, List.length_take]; omega) hv2 hnw))
        have HB2 := Lib.hid (HB.out.trans (hb3.mono HB.out.size))
        have hvf := node_form hv2
        clear hv2 hnb2 hb2 hb3 hnw
        rcases hvf with rfl | ⟨t1, u1, rfl⟩
        all_goals
          go_wp2_with (at_builtin; refine wpList_app1 rfl _ _ 30 rfl w.heap.size 35 Tryd.underlying30 infoNd rfl (by decide) _ _ _ rfl HO2.out _ rfl rfl (by simp [Value.oneCell']) (by omega) (by omega) HB2.out.size ?_)
          intro g5 cap5 w5 ho5 hg5 hb5 hl5
          have HB5 := Lib.hid (HB2.out.grown hg5 HB2.out.size fun j hj => (HO2.out.lt j hj).1)
          have HV5 := Lib.hid (HV2.out.keep (Q := fun j => (Value.slice (some ⟨g5, 0, none⟩) (k + 1) cap5).ownBlock ≠ some j) hg5.size fun j hk hl => ⟨hg5.block j hl (fun e => hk e.symm), fun e => by
            simp only [Value.ownBlock, Option.some.injEq] at e
            subst e
            rcases hl5 with h | h
            · exact hk h
            · omega⟩)
          have HO5 := Lib.hid ho5
          clear ho5 hg5 hb5 hl5
          go_wp2
          go_roundw
          case rel => exact ⟨k + 1, _, some ⟨g5, 0, none⟩, cap5, _, rfl, by go_num, rfl, by omega, by omega, by simp [hvl], HO5.out, by rw [HR2.out]; exact HV5.out, HB5.out⟩
          case measure => simp [intOf]; omega
    · have hcs : ¬ (k : Int) < (l.length : Int) ∨ ((k : Int) < (l.length : Int) ∧ ¬ (k : Int) < 210) := by omega
      have hte : l.take k = l.take 210 := by
        rcases Nat.lt_or_ge k 210 with h | h
        · rw [List.take_of_length_le (by omega), List.take_of_length_le (by omega)]
        · rw [show k = 210 by omega]
      have hlen : ((l.take 210).map cutN).length = k := by rw [← hte, List.length_map, List.length_take]; omega
      have HX := Lib.hid (show NodesA wr B ((l.take 210).map cutN) by
        rw [← hte]
        exact HV.out.row HO.out)
      clear hkl hte
      rcases hcs with h1 | ⟨h1, h2⟩
      all_goals
        go_wp2
        go_ret
        exact ⟨B, d, by rw [hlen]; rfl, HX.out, HB.out⟩
end Go.Proofs.YtaoejgnfoecpfaaDoor
namespace Go.Proofs.YtaoejgnfoecpfaaDoor
set_option linter.unusedVariables false
set_option linter.unusedSimpArgs false
set_option linter.unusedSectionVars false
open Go.RowKit

theorem NodeIs.tell {w : World} {v : Value} {x : Nr} (h : NodeIs w v x) : NodeIs w v (tell x) := by
  rcases h with ⟨h, rfl⟩ | ⟨h, A, c, rfl, h2, h3⟩ | ⟨h, rfl⟩ | ⟨h, h2⟩
  · exact .inl (by unfold Go.Proofs.YtaoejgnfoecpfaaDoor.tell; rw [if_pos h]; exact ⟨rfl, rfl⟩)
  · refine .inr (.inl ?_)
    unfold Go.Proofs.YtaoejgnfoecpfaaDoor.tell
    rw [if_neg (by omega), if_pos h]
    exact ⟨rfl, A, c, rfl, h2, h3⟩
  · refine .inr (.inr (.inl ?_))
    unfold Go.Proofs.YtaoejgnfoecpfaaDoor.tell
    rw [if_neg (by omega), if_neg (by omega), if_pos h]
    exact ⟨rfl, rfl⟩
  · refine .inr (.inr (.inr ⟨?_, h2⟩))
    unfold kindOk at h
    simp only [Bool.and_eq_false_iff, decide_eq_false_iff_not] at h
    unfold Go.Proofs.YtaoejgnfoecpfaaDoor.tell
    rw [if_neg (by omega), if_neg (by omega), if_neg (by omega)]
    rfl
theorem NodesA.tell {w : World} {A : Option Addr} {l : List Nr} (h : NodesA w A l) : NodesA w A (l.map tell) := fun hl => by
  rw [List.length_map] at hl
  obtain ⟨g, o, e, hg, hc⟩ := h hl
  refine ⟨g, o, e, hg, fun i x hx => ?_⟩
  rw [List.getElem?_map] at hx
  obtain ⟨y, hy, rfl⟩ := Option.map_eq_some_iff.1 hx
  obtain ⟨v, h1, h2⟩ := hc i y hy
  exact ⟨v, h1, h2.tell⟩
theorem tell_is_pure (x : Nr) : PureN (tell x) := by
  unfold tell
  split
  · exact ⟨fun _ => ⟨rfl, rfl⟩, fun _ => rfl⟩
  split
  · exact ⟨fun h => absurd rfl h, fun _ => rfl⟩
  split
  · exact ⟨fun _ => ⟨rfl, rfl⟩, fun h => absurd rfl h⟩
  · exact ⟨fun _ => ⟨rfl, rfl⟩, fun _ => rfl⟩
theorem tell_tell (x : Nr) : tell (tell x) = tell x := by
  have h : ∀ y : Nr, y.kind = (tell x).kind → y = tell x → tell y = y := fun y h1 h2 => by
    subst h2
    by_cases hk : kindOk (tell x) = true
    · exact tell_pure hk (tell_is_pure x)
    · unfold tell at hk ⊢
      by_cases k1 : x.kind = 1
      · simp [k1]
      by_cases k2 : x.kind = 2
      · simp [k2]
      by_cases k3 : x.kind = 3
      · simp [k3]
      · simp [k1, k2, k3]
  exact h _ rfl rfl
/-- what the program makes of the records that came in -/
def inN (l : List Nr) : List Nr := ((l.take 210).map cutN).map tell
theorem inN_len (l : List Nr) : (inN l).length = ((l.take 210).map cutN).length := by unfold inN; rw [List.length_map]
theorem inN_le (l : List Nr) : (inN l).length ≤ 210 := by unfold inN; simp only [List.length_map, List.length_take]; omega
theorem inN_tell (l : List Nr) : (inN l).map tell = inN l := by
  unfold inN
  rw [List.map_map]
  exact List.map_congr_left fun x _ => tell_tell x
theorem inN_pure (l : List Nr) : ∀ x ∈ inN l, PureN x := fun x hx => by
  obtain ⟨y, _, rfl⟩ := List.mem_map.1 hx
  exact tell_is_pure y
theorem inN_bnd {l : List Nr} (h : ∀ x ∈ l, NrB x) : ∀ x ∈ inN l, NrB x ∧ x.chunks.length ≤ 20 := fun x hx => by
  obtain ⟨y, hy, rfl⟩ := List.mem_map.1 hx
  obtain ⟨z, hz, rfl⟩ := List.mem_map.1 hy
  obtain ⟨b1, b2, b3, b4, b5, b6, b7⟩ := h z (List.mem_of_mem_take hz)
  unfold tell cutN
  simp only
  split
  · exact ⟨⟨b1, Nat.zero_le _, Nat.zero_le _, fun c hc => absurd hc (by simp), (show (-9223372036854775808 : Int) ≤ 0 ∧ (0 : Int) ≤ 9223372036854775807 by decide), b6, b7⟩, Nat.zero_le _⟩
  split
  · exact ⟨⟨b1, Nat.zero_le _, by simp only [List.length_take]; omega, fun c hc => b4 c (List.mem_of_mem_take hc), b5, b6, b7⟩, by simp only [List.length_take]; omega⟩
  split
  · exact ⟨⟨b1, b2, Nat.zero_le _, fun c hc => absurd hc (by simp), (show (-9223372036854775808 : Int) ≤ 0 ∧ (0 : Int) ≤ 9223372036854775807 by decide), b6, b7⟩, Nat.zero_le _⟩
  · exact ⟨⟨Nat.zero_le _, Nat.zero_le _, Nat.zero_le _, fun c hc => absurd hc (by simp), by decide, by decide, by decide⟩, Nat.zero_le _⟩
theorem allIn_any (l : List Nr) (A : Option Addr) (c : Nat) (w : World) (h : RecsI w A l) (hl : l.length ≤ 140737488355328) : Calls Tryd.prog 18 #[.slice A l.length c] w fun e w' => ∃ A c, e = .returned (.slice A (inN l).length c) ∧ NodesA w' A (inN l) ∧ Below w.heap.size w w' :=
  (all_any l A c w h hl).mono fun e w' ⟨A, c, h1, h2, h3⟩ => ⟨A, c, by rw [h1, inN_len], h2.tell, h3⟩
end Go.Proofs.YtaoejgnfoecpfaaDoor
namespace Go.Proofs.YtaoejgnfoecpfaaDoor
set_option linter.unusedVariables false
set_option linter.unusedSimpArgs false
set_option linter.unusedSectionVars false
open Go.RowKit

set_option maxRecDepth 100000 in
set_option maxHeartbeats 3200000 in
theorem of_big (x : Nr) (A : Option Addr) (c : Nat) (w : World) (hs : StrsA w w.heap.size A x.chunks) (hn : A = none → c = 0) (hc : x.chunks.length * 16 ≤ 140737488355328) : Calls Tryd.prog 41 #[.agg (recC x A c)] w (OfPost x w) := by
  obtain ⟨kind, a, m, t, z, ch, tg⟩ := x
  have hb1 := (Below.refl w.heap.size w).alloc (Nat.le_refl _) (.cells #[.int .i64 kind, .string a, .int .i64 m, .int .i64 t, .int .i64 z, .slice A ch.length c, .string tg] 72)
  have HB1 := Lib.hid hb1
  have HK1 := Lib.hid (Blk.new w 72 #[.int .i64 kind, .string a, .int .i64 m, .int .i64 t, .int .i64 z, .slice A ch.length c, .string tg])
  have HS1 := Lib.hid (hs.below hb1)
  clear hs hb1
  unfold recC
  by_cases k1 : kind = 1
  · subst k1
    go_enter Tryd.func41, Tryd.ntmps41
    go_wp2
    go_ret
    exact ⟨_, rfl, .inl ⟨rfl, rfl⟩, fun k h => absurd h blk_fol, HB1.out, fun h => absurd h (by simp), fun h => absurd h (by rw [kindOk_of (by simp only; omega)]; simp)⟩
  by_cases k2 : kind = 2
  · subst k2
    clear k1
    go_enter Tryd.func41, Tryd.ntmps41
    go_wp2
    generalize w.alloc (.cells #[.int .i64 2, .string a, .int .i64 m, .int .i64 t, .int .i64 z, .slice A ch.length c, .string tg] 72) = wp at *
    have HZ := Lib.hid (show w.heap.size < wp.heap.size from HK1.out.lt)
    go_region_held3 (fun W => W.cell? ⟨w.heap.size, 1, none⟩ = some (.string a) ∧ W.cell? ⟨w.heap.size, 2, none⟩ = some (.int .i64 m) ∧ W.cell? ⟨w.heap.size, 3, none⟩ = some (.int .i64 t) ∧ W.cell? ⟨w.heap.size, 4, none⟩ = some (.int .i64 z) ∧ W.cell? ⟨w.heap.size, 5, none⟩ = some (.slice A ch.length c))
      (first | with_reducible exact hk5s | with_reducible exact rec5 HK1.out | with_reducible exact rec5 (Blk.drew HK1.out) | with_reducible exact rec5 (Blk.alloc HK1.out _) | with_reducible exact rec5 (Blk.alloc (Blk.drew HK1.out) _) | with_reducible exact rec5 (Blk.drew (Blk.alloc HK1.out _)))
      (first
        | (refine step_appStrs (by rfl) _ _ (by rfl) (w.heap.size + 1) _ 0 [] (by rfl) ((own_empty (by have := HZ.out; omega)).drew) A c ch (by rfl) (HS1.out.below (((Below.refl wp.heap.size wp).alloc (Nat.le_refl _) _).drew)) hn (by omega) (by have := HZ.out; simp; omega) ?_; intro A' c' w5 hown5 hg5 hn5; have hk5 := (Blk.drew (Blk.alloc HK1.out (.cells #[] 9))).grown hg5 (by have := HZ.out; simp [Value.ownBlock]; omega); have hk5s := rec5 hk5))
    rw [Nat.zero_add, List.nil_append] at hown5
    have hst5 := (own_strs hown5).1
    have hlt5 := hown5.lt
    have hb5 := ((HB1.out.alloc HB1.out.size (.cells #[] 9)).drew).grown hg5 (by have := HB1.out.size; simp; omega) (fun k hk => by have := HZ.out; simp only [Value.ownBlock, Option.some.injEq] at hk; omega)
    go_wp2
    go_ret
    exact ⟨plaV a m t z A' ch.length c', by simp [plaV], .inr (.inl ⟨rfl, A', c', rfl, hst5, hn5⟩), fun k h => by
      obtain ⟨⟨o, e⟩, _⟩ := blk_pla h
      subst e
      have := (hlt5 k rfl).1
      omega, hb5, fun h => absurd h (by simp), fun h => absurd h (by rw [kindOk_of (by simp only; omega)]; simp)⟩
  by_cases k3 : kind = 3
  · subst k3
    clear k1 k2
    go_enter Tryd.func41, Tryd.ntmps41
    go_wp2
    go_ret
    exact ⟨_, rfl, .inr (.inr (.inl ⟨rfl, rfl⟩)), fun k h => absurd h blk_sym, HB1.out, fun h => absurd h (by simp), fun h => absurd h (by rw [kindOk_of (by simp only; omega)]; simp)⟩
  have hno : kindOk ⟨kind, a, m, t, z, ch, tg⟩ = false := by
    unfold kindOk
    simp only [Bool.and_eq_false_iff, decide_eq_false_iff_not]
    omega
  by_cases k4 : kind = 4
  · subst k4
    clear k1 k2 k3
    go_enter Tryd.func41, Tryd.ntmps41
    go_wp2
    go_ret
    exact ⟨_, rfl, .inr (.inr (.inr ⟨hno, .inr ⟨_, rfl⟩⟩)), fun k h => absurd h blk_ptr, HB1.out.alloc HB1.out.size _, fun _ => ⟨_, rfl, Blk.new2 w _ _ _⟩, fun _ h => absurd rfl h⟩
  · go_enter Tryd.func41, Tryd.ntmps41
    go_wp2
    go_ret
    exact ⟨_, rfl, .inr (.inr (.inr ⟨hno, .inl rfl⟩)), fun k h => absurd h blk_nil, HB1.out, fun h => absurd h k4, fun _ _ => rfl⟩
set_option maxRecDepth 100000 in
set_option maxHeartbeats 3200000 in
theorem told_big (x : Nr) (v : Value) (w : World) (h : NodeIs w v x) (hc : x.chunks.length * 16 ≤ 140737488355328) : Calls Tryd.prog 44 #[v] w (ToldPost x w) := by
  have t0 := taFF
  have t1 := taPP
  have t2 := taSS
  have t3 := taPF
  have t4 := taSF
  have t5 := taQF
  have t6 := taNF
  have t7 := taFP
  have t8 := taSP
  have t9 := taQP
  have t10 := taNP
  have t11 := taFS
  have t12 := taPS
  have t13 := taQS
  have t14 := taNS
  rcases h with ⟨h, rfl⟩ | ⟨h, A, c, rfl, hs, hn⟩ | ⟨h, rfl⟩ | ⟨h, rfl | ⟨g, rfl⟩⟩
  · have hk : tell x = ⟨1, x.at_, x.mode, x.time, 0, [], noB⟩ := by unfold tell; rw [if_pos h]
    unfold folV ToldPost
    rw [hk]
    clear h hk
    go_enter Tryd.func44, Tryd.ntmps44
    go_wp2
    refine bodyPost_ret (v := .agg #[.int .i64 1, .string x.at_, .int .i64 x.mode, .int .i64 x.time, .int .i64 0, .slice none 0 0, .string ⟨#[]⟩]) (by simp [results, Tryd.results44, go_sem]) rfl ?_
    exact ⟨none, 0, rfl, fun h => absurd h (by simp), (fun k o e => by cases e), fun _ => rfl, ((Below.refl _ w).alloc (Nat.le_refl _) _).alloc (by simp) _⟩
  · have hk : tell x = ⟨2, x.at_, x.mode, x.time, x.size, x.chunks, noB⟩ := by unfold tell; rw [if_neg (by omega), if_pos h]
    unfold plaV ToldPost
    rw [hk]
    clear h hk
    go_enter Tryd.func44, Tryd.ntmps44
    have hh := ((Below.refl w.heap.size w).alloc (Nat.le_refl _) (.cells #[.int .i64 0, .string ⟨#[]⟩, .int .i64 0, .int .i64 0, .int .i64 0, .slice none 0 0, .string ⟨#[]⟩] 72)).alloc (by simp) (.cells #[.string x.at_, .int .i64 x.mode, .int .i64 x.time, .int .i64 x.size, .slice A x.chunks.length c] 75)
    have HK1 := Lib.hid (Blk.new2 w (.cells #[.int .i64 0, .string ⟨#[]⟩, .int .i64 0, .int .i64 0, .int .i64 0, .slice none 0 0, .string ⟨#[]⟩] 72) 75 #[.string x.at_, .int .i64 x.mode, .int .i64 x.time, .int .i64 x.size, .slice A x.chunks.length c])
    have HK0 := Lib.hid ((Blk.new w 72 #[.int .i64 0, .string ⟨#[]⟩, .int .i64 0, .int .i64 0, .int .i64 0, .slice none 0 0, .string ⟨#[]⟩]).alloc (.cells #[.string x.at_, .int .i64 x.mode, .int .i64 x.time, .int .i64 x.size, .slice A x.chunks.length c] 75))
    have HS := Lib.hid (hs.below hh)
    have HH := Lib.hid hh
    clear hs hh
    go_wp2
    generalize (w.alloc (.cells #[.int .i64 0, .string ⟨#[]⟩, .int .i64 0, .int .i64 0, .int .i64 0, .slice none 0 0, .string ⟨#[]⟩] 72)).alloc (.cells #[.string x.at_, .int .i64 x.mode, .int .i64 x.time, .int .i64 x.size, .slice A x.chunks.length c] 75) = wp at *
    have HZ := Lib.hid (show w.heap.size + 1 < wp.heap.size from HK1.out.lt)
    go_region_held3 (fun W => W.cell? ⟨w.heap.size + 1, 0, none⟩ = some (.string x.at_) ∧ W.cell? ⟨w.heap.size + 1, 1, none⟩ = some (.int .i64 x.mode) ∧ W.cell? ⟨w.heap.size + 1, 2, none⟩ = some (.int .i64 x.time) ∧ W.cell? ⟨w.heap.size + 1, 3, none⟩ = some (.int .i64 x.size) ∧ W.cell? ⟨w.heap.size + 1, 4, none⟩ = some (.slice A x.chunks.length c))
      (first | with_reducible exact hk5s | with_reducible exact pla5 HK1.out | with_reducible exact pla5 (Blk.drew HK1.out) | with_reducible exact pla5 (Blk.alloc HK1.out _) | with_reducible exact pla5 (Blk.alloc (Blk.drew HK1.out) _) | with_reducible exact pla5 (Blk.drew (Blk.alloc HK1.out _)) | exact pla5 (far7 hk5 (by omega) _ _ _ _ _ _ _))
      (first
        | (refine step_appStrs (by rfl) _ _ (by rfl) (w.heap.size + 1) _ 0 [] (by rfl) ((own_empty (by have := HZ.out; omega)).drew) A c x.chunks (by rfl) (HS.out.below (((Below.refl wp.heap.size wp).alloc (Nat.le_refl _) _).drew)) hn (by omega) (by have := HZ.out; simp; omega) ?_; intro A' c' w5 hown5 hg5 hn5; have hk5 := (Blk.drew (Blk.alloc HK1.out (.cells #[] 9))).grown hg5 (by have := HZ.out; simp [Value.ownBlock]; omega); have hk5s := pla5 hk5; have hz5 := (Blk.drew (Blk.alloc HK0.out (.cells #[] 9))).grown hg5 (by have := HZ.out; simp [Value.ownBlock]; omega); have hl5 : w.heap.size < w5.heap.size := hz5.lt; obtain ⟨⟨p0, p1, p2, p3, p4, p5, p6⟩, ⟨q0, q1, q2, q3, q4, q5, q6⟩⟩ := blk7' hz5))
    rw [Nat.zero_add, List.nil_append] at hown5
    have hst5 := (own_strs hown5).1
    have hlt5 := hown5.lt
    have hb5 := below_set7 (((HH.out.alloc HH.out.size (.cells #[] 9)).drew).grown hg5 (by have := HH.out.size; simp; omega) (fun k hk => by have := HZ.out; simp only [Value.ownBlock, Option.some.injEq] at hk; omega)) (Nat.le_refl w.heap.size)
    have hst6 := fun v0 v1 v2 v3 v4 v5 v6 => StrsA.keep (w' := (((((((w5.setCell ⟨w.heap.size, 0, none⟩ v0).setCell ⟨w.heap.size, 1, none⟩ v1).setCell ⟨w.heap.size, 2, none⟩ v2).setCell ⟨w.heap.size, 3, none⟩ v3).setCell ⟨w.heap.size, 4, none⟩ v4).setCell ⟨w.heap.size, 5, none⟩ v5).setCell ⟨w.heap.size, 6, none⟩ v6)) hst5 (by simp) (fun _ g o e _ => heap7 (by subst e; have := (hlt5 g rfl).1; omega) v0 v1 v2 v3 v4 v5 v6)
    go_wp2
    refine bodyPost_ret (v := .agg #[.int .i64 2, .string x.at_, .int .i64 x.mode, .int .i64 x.time, .int .i64 x.size, .slice A' x.chunks.length c', .string ⟨#[]⟩]) (by simp [results, Tryd.results44, go_sem, p0, p1, p2, p3, p4, p5, p6]) rfl ?_
    exact ⟨A', c', rfl, hst6 _ _ _ _ _ _ _, (fun k o e => by subst e; have := (hlt5 k rfl).1; omega), hn5, hb5 _ _ _ _ _ _ _⟩
  · have hk : tell x = ⟨3, x.at_, x.mode, x.time, 0, [], x.target⟩ := by unfold tell; rw [if_neg (by omega), if_neg (by omega), if_pos h]
    unfold symV ToldPost
    rw [hk]
    clear h hk
    go_enter Tryd.func44, Tryd.ntmps44
    go_wp2
    refine bodyPost_ret (v := .agg #[.int .i64 3, .string x.at_, .int .i64 x.mode, .int .i64 x.time, .int .i64 0, .slice none 0 0, .string x.target]) (by simp [results, Tryd.results44, go_sem]) rfl ?_
    exact ⟨none, 0, rfl, fun h => absurd h (by simp), (fun k o e => by cases e), fun _ => rfl, ((Below.refl _ w).alloc (Nat.le_refl _) _).alloc (by simp) _⟩
  all_goals
    have hk : tell x = ⟨0, noB, 0, 0, 0, [], noB⟩ := by
      unfold kindOk at h
      simp only [Bool.and_eq_false_iff, decide_eq_false_iff_not] at h
      unfold tell
      rw [if_neg (by omega), if_neg (by omega), if_neg (by omega)]
    unfold ToldPost
    rw [hk]
    clear h hk
    go_enter Tryd.func44, Tryd.ntmps44
    go_wp2
    refine bodyPost_ret (v := .agg #[.int .i64 0, .string ⟨#[]⟩, .int .i64 0, .int .i64 0, .int .i64 0, .slice none 0 0, .string ⟨#[]⟩]) (by simp [results, Tryd.results44, go_sem]) rfl ?_
    exact ⟨none, 0, rfl, fun h => absurd h (by simp), (fun k o e => by cases e), fun _ => rfl, (Below.refl _ w).alloc (Nat.le_refl _) _⟩
end Go.Proofs.YtaoejgnfoecpfaaDoor
namespace Go.Proofs.YtaoejgnfoecpfaaDoor
set_option linter.unusedVariables false
set_option linter.unusedSimpArgs false
set_option linter.unusedSectionVars false
open Go.RowKit

theorem taP0 (u : Value) (w : World) : (Instr.typeAssert (.iface 75 u) 35 75 false).run Tryd.prog w = .ok u w := by kernel_rfl
theorem mPtr {w : World} {g : Nat} {a : ByteArray} {m t : Int} (h : Blk w g 26 #[.string a, .int .i64 m, .int .i64 t]) (n : Nat) : (Go.method (n + 1) 134 (.pointer (some ⟨g, 0, none⟩)) "Path").run Tryd.prog w = .ok (176, .agg #[.string a, .int .i64 m, .int .i64 t]) w := by
  have h0 : w.cell? ⟨g, 0, none⟩ = some (.string a) := h.cell 0
  have h1 : w.cell? ⟨g, 1, none⟩ = some (.int .i64 m) := h.cell 1
  have h2 : w.cell? ⟨g, 2, none⟩ = some (.int .i64 t) := h.cell 2
  have e : (Go.method (n + 1) 134 (.pointer (some ⟨g, 0, none⟩)) "Path").run Tryd.prog w = (do let v ← loadVar 26 ⟨g, 0, none⟩; pure (176, v) : Sem (FuncId × Value)).run Tryd.prog w := by kernel_rfl
  rw [e]
  clear e
  simp [go_sem, loadVar, h0, h1, h2]
set_option maxRecDepth 100000 in
set_option maxHeartbeats 400000 in
theorem mustPlain_any (a : ByteArray) (m t z : Int) (A : Option Addr) (n c : Nat) (w : World) :
    Calls Tryd.prog 43 #[plaV a m t z A n c] w fun e w' => e = .returned (.agg #[.string a, .int .i64 m, .int .i64 t, .int .i64 z, .slice A n c]) ∧ Below w.heap.size w w' := by
  have t0 := taP0
  unfold plaV
  have hk := Blk.new w 75 #[.string a, .int .i64 m, .int .i64 t, .int .i64 z, .slice A n c]
  have hb : Below w.heap.size w (w.alloc (.cells #[.string a, .int .i64 m, .int .i64 t, .int .i64 z, .slice A n c] 75)) := (Below.refl _ _).alloc (Nat.le_refl _) _
  obtain ⟨r0, r1, r2, r3, r4⟩ := blk5 hk
  have HB := Lib.hid hb
  clear hk hb
  go_enter Tryd.func43, Tryd.ntmps43
  go_wp2
  refine bodyPost_ret (v := .agg #[.string a, .int .i64 m, .int .i64 t, .int .i64 z, .slice A n c]) (by simp [results, Tryd.results43, go_sem, r0, r1, r2, r3, r4]) rfl ?_
  exact ⟨rfl, HB.out⟩
end Go.Proofs.YtaoejgnfoecpfaaDoor
