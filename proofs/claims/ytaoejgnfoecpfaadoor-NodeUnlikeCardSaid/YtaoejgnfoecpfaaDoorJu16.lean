/- A tree's nodes: the program's nodes of records. A tree's nodes: records that came in, as nodes of pure records. NodeUnlike, walked. -/
import Derived.Test.YtaoejgnfoecpfaaDoorJu15
namespace Go.Proofs.YtaoejgnfoecpfaaDoor
open Go.RowKit

/-- a record cut to 20 chunks -/
def cutN (x : Nr) : Nr := ⟨x.kind, x.at_, x.mode, x.time, x.size, x.chunks.take 20, x.target⟩
/-- rows of records that came in -/
def RecsI (w : World) (A : Option Addr) (l : List Nr) : Prop := 0 < l.length → ∃ g o, A = some ⟨g, o, none⟩ ∧ g < w.heap.size ∧ ∀ (i : Nat) (x : Nr), l[i]? = some x → ∃ B c, (∀ (j : Nat) (u : Value), (recC x B c)[j]? = some u → w.cell? ⟨g, o + i * 7 + j, none⟩ = some u) ∧ StrsA w w.heap.size B x.chunks ∧ x.chunks.length ≤ c ∧ (B = none → c = 0)
theorem RecsI.below {w w' : World} {A : Option Addr} {l : List Nr} (h : RecsI w A l) (hb : Below w.heap.size w w') : RecsI w' A l := fun hl => by
  obtain ⟨g, o, rfl, hg, hc⟩ := h hl
  refine ⟨g, o, rfl, Nat.lt_of_lt_of_le hg hb.size, fun i x hi => ?_⟩
  obtain ⟨B, c, h1, h2, h3, h4⟩ := hc i x hi
  exact ⟨B, c, fun j u hj => (hb.cell (p := ⟨g, o + i * 7 + j, none⟩) hg).trans (h1 j u hj), h2.below hb, h3, h4⟩
theorem node_form {w : World} {v : Value} {x : Nr} (h : NodeIs w v x) : v = .nilIface ∨ ∃ t u, v = .iface t u := by
  rcases h with ⟨_, h⟩ | ⟨_, A, c', h, _, _⟩ | ⟨_, h⟩ | ⟨_, h | ⟨_, h⟩⟩
  · exact .inr ⟨_, _, h⟩
  · exact .inr ⟨_, _, h⟩
  · exact .inr ⟨_, _, h⟩
  · exact .inl h
  · exact .inr ⟨_, _, h⟩
def AllPost (l : List Nr) (w : World) (e : Ending) (w' : World) : Prop :=
  ∃ A c, e = .returned (.slice A ((l.take 210).map cutN).length c) ∧ NodesA w' A ((l.take 210).map cutN) ∧ Below w.heap.size w w'
set_option maxRecDepth 100000 in
set_option maxHeartbeats 3200000 in
theorem all_any (l : List Nr) (A : Option Addr) (c : Nat) (w : World) (h : RecsI w A l) (hl : l.length ≤ 140737488355328) : Calls Tryd.prog 18 #[.slice A l.length c] w (AllPost l w) := by
  have HN := Lib.hid fun W (hb : Below w.heap.size w W) => h.below hb
  clear h
  go_enter Tryd.func18, Tryd.ntmps18
  go_wp2
  have hb0 := (Below.refl w.heap.size w).alloc (Nat.le_refl _) (.cells #[] 35)
  go_loopw [3, 4, 5] (fun ov iv pv wr => ∃ (k : Nat) (vs : List Value) (B : Option Addr) (d : Nat) (u : Value), ov = .slice B k d ∧ iv = .int .i64 (k : Nat) ∧ pv = u ∧ k ≤ l.length ∧ k ≤ 210 ∧ vs.length = k ∧ wr.ownsRow w.heap.size 35 1 (.slice B k d) k vs ∧ NodesV wr (fun j => (Value.slice B k d).ownBlock ≠ some j) vs ((l.take k).map cutN) ∧ Below w.heap.size w wr) (fun _ iv _ _ => l.length - (intOf iv).toNat)
  case atStart => exact ⟨0, [], some ⟨w.heap.size, 0, none⟩, 0, _, rfl, rfl, rfl, Nat.zero_le _, Nat.zero_le _, rfl, own_emptyN (Nat.le_refl _), fun i x hx => by simp at hx, hb0⟩
  case round =>
    obtain ⟨k, vs, B, d, u, rfl, rfl, rfl, hk, hk10, hvl, how, hnv, hbel⟩ := hrel
    have HO := Lib.hid how
    have HV := Lib.hid hnv
    have HB := Lib.hid hbel
    clear how hnv hb0
    by_cases hkl : k < l.length ∧ k < 210
    · obtain ⟨hkl, hk2⟩ := hkl
      obtain ⟨g, o, rfl, hg, hcc⟩ := HN.out wr hbel (by omega)
      obtain ⟨X, cx, hcx, hsx, hlx, hnx⟩ := hcc k l[k] (List.getElem?_eq_getElem hkl)
      have HR2 := Lib.hid (show (l.take (k + 1)).map cutN = (l.take k).map cutN ++ [cutN l[k]] by rw [List.take_succ_eq_append_getElem hkl, List.map_append]; rfl)
      clear hcc hbel
      generalize l[k] = x at *
      obtain ⟨kind, a, m, t, z, ch, tg⟩ := x
      have q0 : wr.cell? ⟨g, o + k * 7, none⟩ = some (.int .i64 kind) := hcx 0 _ rfl
      have q1 : wr.cell? ⟨g, o + k * 7 + 1, none⟩ = some (.string a) := hcx 1 _ rfl
      have q2 : wr.cell? ⟨g, o + k * 7 + 2, none⟩ = some (.int .i64 m) := hcx 2 _ rfl
      have q3 : wr.cell? ⟨g, o + k * 7 + 3, none⟩ = some (.int .i64 t) := hcx 3 _ rfl
      have q4 : wr.cell? ⟨g, o + k * 7 + 4, none⟩ = some (.int .i64 z) := hcx 4 _ rfl
      have q5 : wr.cell? ⟨g, o + k * 7 + 5, none⟩ = some (.slice X ch.length cx) := hcx 5 _ rfl
      have q6 : wr.cell? ⟨g, o + k * 7 + 6, none⟩ = some (.string tg) := hcx 6 _ rfl
      have hk0 : (0 : Int) ≤ (k : Int) := by omega
      have hki : (k : Int) < (l.length : Int) := by omega
      have hk210 : (k : Int) < 210 := by omega
      have hk3 : ((k : Int)).toNat = k := by omega
      clear hcx
      by_cases h20 : 20 < ch.length
      · obtain ⟨bx, ox, rfl, hbx, hcb⟩ := hsx (by show 0 < ch.length; omega)
        have h20i : (20 : Int) < (ch.length : Int) := by omega
        simp only at hlx
        have HT := Lib.hid fun W (hb : Below wr.heap.size wr W) => (by
          have h1 := of_any ⟨kind, a, m, t, z, ch.take 20, tg⟩ (some ⟨bx, ox, none⟩) cx W (StrsA.below (W := wr) (fun _ => ⟨bx, ox, rfl, hbx, fun j u hj => hcb j u (by
            rw [List.getElem?_take] at hj
            split at hj
            · exact hj
            · cases hj)⟩) hb) (fun h => by cases h) (by simp only [List.length_take]; omega)
          unfold recC at h1
          simp only [List.length_take, Nat.min_eq_left (Nat.le_of_lt h20)] at h1
          exact h1 : Calls Tryd.prog 41 #[.agg #[.int .i64 kind, .string a, .int .i64 m, .int .i64 t, .int .i64 z, .slice (some ⟨bx, ox, none⟩) 20 cx, .string tg]] W (OfPost (cutN ⟨kind, a, m, t, z, ch, tg⟩) W))
        clear hcb hsx
        go_wp2_with fail
        refine (HT.out _ (((Below.refl wr.heap.size wr).alloc (Nat.le_refl _) _))).mono ?_
        rintro e w2 ⟨v, rfl, hv2, hnb2, hb2, _, _⟩
        have hb3 : Below wr.heap.size wr w2 := (((Below.refl wr.heap.size wr).alloc (Nat.le_refl _) _)).trans (hb2.mono (by simp))
        have hnw : ∀ j, NodeBlk v j → (Value.slice B k d).ownBlock ≠ some j := fun j hj e => by
          have h1 := hnb2 j hj
          have h2 := (HO.out.lt j e).2
          simp at h1
          omega
        have HO2 := Lib.hid (own_atN HO.out (w' := w2) fun i hi => hb3.block i (HO.out.lt i hi).2)
        have HV2 := Lib.hid (((HV.out.keep (Q := fun j => (Value.slice B k d).ownBlock ≠ some j) hb3.size fun k hk hl => ⟨hb3.block k hl, hk⟩).snoc (by rw [List.length_map, List.length_take]; omega) hv2 hnw))
        have HB2 := Lib.hid (HB.out.trans (hb3.mono HB.out.size))
        have hvf := node_form hv2
        clear hv2 hnb2 hb2 hb3 hnw
        rcases hvf with rfl | ⟨t1, u1, rfl⟩
        all_goals
          go_wp2_with (at_builtin; refine wpList_app1 rfl _ _ 30 rfl w.heap.size 35 Tryd.underlying30 infoNd rfl (by decide) _ _ _ rfl HO2.out _ rfl rfl (by simp [Value.oneCell']) (by omega) (by omega) HB2.out.size ?_)
          intro g5 cap5 w5 ho5 hg5 hb5 hl5
          have HB5 := Lib.hid (HB2.out.grown hg5 HB2.out.size fun j hj => (HO2.out.lt j hj).1)
          have HV5 := Lib.hid (HV2.out.keep (Q := fun j => (Value.slice (some ⟨g5, 0, none⟩) (k + 1) cap5).ownBlock ≠ some j) hg5.size fun j hk hl => ⟨hg5.block j hl (fun e => hk e.symm), fun e => by
            simp only [Value.ownBlock, Option.some.injEq] at e
            subst e
            rcases hl5 with h | h
            · exact hk h
            · omega⟩)
          have HO5 := Lib.hid ho5
          clear ho5 hg5 hb5 hl5
          go_wp2
          go_roundw
          case rel => exact ⟨k + 1, _, some ⟨g5, 0, none⟩, cap5, _, rfl, by go_num, rfl, by omega, by omega, by simp [hvl], HO5.out, by rw [HR2.out]; exact HV5.out, HB5.out⟩
          case measure => simp [intOf]; omega
      · have h20i : ¬ (20 : Int) < (ch.length : Int) := by omega
        have HT := Lib.hid fun W (hb : Below wr.heap.size wr W) => (by
          have h1 := of_any ⟨kind, a, m, t, z, ch, tg⟩ X cx W (hsx.below hb) hnx (by show ch.length ≤ 1000000; omega)
          unfold recC at h1
          have e : cutN ⟨kind, a, m, t, z, ch, tg⟩ = ⟨kind, a, m, t, z, ch, tg⟩ := by unfold cutN; simp only; rw [List.take_of_length_le (by omega)]
          rw [e]
          exact h1 : Calls Tryd.prog 41 #[.agg #[.int .i64 kind, .string a, .int .i64 m, .int .i64 t, .int .i64 z, .slice X ch.length cx, .string tg]] W (OfPost (cutN ⟨kind, a, m, t, z, ch, tg⟩) W))
        clear hsx
        go_wp2_with fail
        refine (HT.out _ (((Below.refl wr.heap.size wr).alloc (Nat.le_refl _) _))).mono ?_
        rintro e w2 ⟨v, rfl, hv2, hnb2, hb2, _, _⟩
        have hb3 : Below wr.heap.size wr w2 := (((Below.refl wr.heap.size wr).alloc (Nat.le_refl _) _)).trans (hb2.mono (by simp))
        have hnw : ∀ j, NodeBlk v j → (Value.slice B k d).ownBlock ≠ some j := fun j hj e => by
          have h1 := hnb2 j hj
          have h2 := (HO.out.lt j e).2
          simp at h1
          omega
        have HO2 := Lib.hid (own_atN HO.out (w' := w2) fun i hi => hb3.block i (HO.out.lt i hi).2)
        have HV2 := Lib.hid (((HV.out.keep (Q := fun j => (Value.slice B k d).ownBlock ≠ some j) hb3.size fun k hk hl => ⟨hb3.block k hl, hk⟩).snoc (by rw [List.length_map, List.length_take]; omega) hv2 hnw))
        have HB2 := Lib.hid (HB.out.trans (hb3.mono HB.out.size))
        have hvf := node_form hv2
        clear hv2 hnb2 hb2 hb3 hnw
        rcases hvf with rfl | ⟨t1, u1, rfl⟩
        all_goals
          go_wp2_with (at_builtin; refine wpList_app1 rfl _ _ 30 rfl w.heap.size 35 Tryd.underlying30 infoNd rfl (by decide) _ _ _ rfl HO2.out _ rfl rfl (by simp [Value.oneCell']) (by omega) (by omega) HB2.out.size ?_)
          intro g5 cap5 w5 ho5 hg5 hb5 hl5
          have HB5 := Lib.hid (HB2.out.grown hg5 HB2.out.size fun j hj => (HO2.out.lt j hj).1)
          have HV5 := Lib.hid (HV2.out.keep (Q := fun j => (Value.slice (some ⟨g5, 0, none⟩) (k + 1) cap5).ownBlock ≠ some j) hg5.size fun j hk hl => ⟨hg5.block j hl (fun e => hk e.symm), fun e => by
            simp only [Value.ownBlock, Option.some.injEq] at e
            subst e
            rcases hl5 with h | h
            · exact hk h
            · omega⟩)
          have HO5 := Lib.hid ho5
          clear ho5 hg5 hb5 hl5
          go_wp2
          go_roundw
          case rel => exact ⟨k + 1, _, some ⟨g5, 0, none⟩, cap5, _, rfl, by go_num, rfl, by omega, by omega, by simp [hvl], HO5.out, by rw [HR2.out]; exact HV5.out, HB5.out⟩
          case measure => simp [intOf]; omega
    · have hcs : ¬ (k : Int) < (l.length : Int) ∨ ((k : Int) < (l.length : Int) ∧ ¬ (k : Int) < 210) := by omega
      have hte : l.take k = l.take 210 := by
        rcases Nat.lt_or_ge k 210 with h | h
        · rw [List.take_of_length_le (by omega), List.take_of_length_le (by omega)]
        · rw [show k = 210 by omega]
      have hlen : ((l.take 210).map cutN).length = k := by rw [← hte, List.length_map, List.length_take]; omega
      have HX := Lib.hid (show NodesA wr B ((l.take 210).map cutN) by
        rw [← hte]
        exact HV.out.row HO.out)
      clear hkl hte
      rcases hcs with h1 | ⟨h1, h2⟩
      all_goals
        go_wp2
        go_ret
        exact ⟨B, d, by rw [hlen]; rfl, HX.out, HB.out⟩
end Go.Proofs.YtaoejgnfoecpfaaDoor
namespace Go.Proofs.YtaoejgnfoecpfaaDoor
open Go.RowKit

theorem NodeIs.tell {w : World} {v : Value} {x : Nr} (h : NodeIs w v x) : NodeIs w v (tell x) := by
  rcases h with ⟨h, rfl⟩ | ⟨h, A, c, rfl, h2, h3⟩ | ⟨h, rfl⟩ | ⟨h, h2⟩
  · exact .inl (by unfold Go.Proofs.YtaoejgnfoecpfaaDoor.tell; rw [if_pos h]; exact ⟨rfl, rfl⟩)
  · refine .inr (.inl ?_)
    unfold Go.Proofs.YtaoejgnfoecpfaaDoor.tell
    rw [if_neg (by omega), if_pos h]
    exact ⟨rfl, A, c, rfl, h2, h3⟩
  · refine .inr (.inr (.inl ?_))
    unfold Go.Proofs.YtaoejgnfoecpfaaDoor.tell
    rw [if_neg (by omega), if_neg (by omega), if_pos h]
    exact ⟨rfl, rfl⟩
  · refine .inr (.inr (.inr ⟨?_, h2⟩))
    unfold kindOk at h
    simp only [Bool.and_eq_false_iff, decide_eq_false_iff_not] at h
    unfold Go.Proofs.YtaoejgnfoecpfaaDoor.tell
    rw [if_neg (by omega), if_neg (by omega), if_neg (by omega)]
    rfl
theorem NodesA.tell {w : World} {A : Option Addr} {l : List Nr} (h : NodesA w A l) : NodesA w A (l.map tell) := fun hl => by
  rw [List.length_map] at hl
  obtain ⟨g, o, e, hg, hc⟩ := h hl
  refine ⟨g, o, e, hg, fun i x hx => ?_⟩
  rw [List.getElem?_map] at hx
  obtain ⟨y, hy, rfl⟩ := Option.map_eq_some_iff.1 hx
  obtain ⟨v, h1, h2⟩ := hc i y hy
  exact ⟨v, h1, h2.tell⟩
theorem tell_is_pure (x : Nr) : PureN (tell x) := by
  unfold tell
  split
  · exact ⟨fun _ => ⟨rfl, rfl⟩, fun _ => rfl⟩
  split
  · exact ⟨fun h => absurd rfl h, fun _ => rfl⟩
  split
  · exact ⟨fun _ => ⟨rfl, rfl⟩, fun h => absurd rfl h⟩
  · exact ⟨fun _ => ⟨rfl, rfl⟩, fun _ => rfl⟩
theorem tell_tell (x : Nr) : tell (tell x) = tell x := by
  have h : ∀ y : Nr, y.kind = (tell x).kind → y = tell x → tell y = y := fun y h1 h2 => by
    subst h2
    by_cases hk : kindOk (tell x) = true
    · exact tell_pure hk (tell_is_pure x)
    · unfold tell at hk ⊢
      by_cases k1 : x.kind = 1
      · simp [k1]
      by_cases k2 : x.kind = 2
      · simp [k2]
      by_cases k3 : x.kind = 3
      · simp [k3]
      · simp [k1, k2, k3]
  exact h _ rfl rfl
/-- what the program makes of the records that came in -/
def inN (l : List Nr) : List Nr := ((l.take 210).map cutN).map tell
theorem inN_len (l : List Nr) : (inN l).length = ((l.take 210).map cutN).length := by unfold inN; rw [List.length_map]
theorem inN_le (l : List Nr) : (inN l).length ≤ 210 := by unfold inN; simp only [List.length_map, List.length_take]; omega
theorem inN_tell (l : List Nr) : (inN l).map tell = inN l := by
  unfold inN
  rw [List.map_map]
  exact List.map_congr_left fun x _ => tell_tell x
theorem inN_pure (l : List Nr) : ∀ x ∈ inN l, PureN x := fun x hx => by
  obtain ⟨y, _, rfl⟩ := List.mem_map.1 hx
  exact tell_is_pure y
theorem inN_bnd {l : List Nr} (h : ∀ x ∈ l, NrB x) : ∀ x ∈ inN l, NrB x ∧ x.chunks.length ≤ 20 := fun x hx => by
  obtain ⟨y, hy, rfl⟩ := List.mem_map.1 hx
  obtain ⟨z, hz, rfl⟩ := List.mem_map.1 hy
  obtain ⟨b1, b2, b3, b4, b5, b6, b7⟩ := h z (List.mem_of_mem_take hz)
  unfold tell cutN
  simp only
  split
  · exact ⟨⟨b1, Nat.zero_le _, Nat.zero_le _, fun c hc => absurd hc (by simp), (show (-9223372036854775808 : Int) ≤ 0 ∧ (0 : Int) ≤ 9223372036854775807 by decide), b6, b7⟩, Nat.zero_le _⟩
  split
  · exact ⟨⟨b1, Nat.zero_le _, by simp only [List.length_take]; omega, fun c hc => b4 c (List.mem_of_mem_take hc), b5, b6, b7⟩, by simp only [List.length_take]; omega⟩
  split
  · exact ⟨⟨b1, b2, Nat.zero_le _, fun c hc => absurd hc (by simp), (show (-9223372036854775808 : Int) ≤ 0 ∧ (0 : Int) ≤ 9223372036854775807 by decide), b6, b7⟩, Nat.zero_le _⟩
  · exact ⟨⟨Nat.zero_le _, Nat.zero_le _, Nat.zero_le _, fun c hc => absurd hc (by simp), by decide, by decide, by decide⟩, Nat.zero_le _⟩
theorem allIn_any (l : List Nr) (A : Option Addr) (c : Nat) (w : World) (h : RecsI w A l) (hl : l.length ≤ 140737488355328) : Calls Tryd.prog 18 #[.slice A l.length c] w fun e w' => ∃ A c, e = .returned (.slice A (inN l).length c) ∧ NodesA w' A (inN l) ∧ Below w.heap.size w w' :=
  (all_any l A c w h hl).mono fun e w' ⟨A, c, h1, h2, h3⟩ => ⟨A, c, by rw [h1, inN_len], h2.tell, h3⟩
end Go.Proofs.YtaoejgnfoecpfaaDoor
namespace Go.Proofs.YtaoejgnfoecpfaaDoor
open Go.RowKit

theorem catN_len : ∀ (l : List ByteArray), (∀ c ∈ l, c.size = 32) → (catN l).length = 32 * l.length
  | [], _ => rfl
  | c :: r, h => by
    have e : catN (c :: r) = c.data.toList ++ catN r := rfl
    rw [e, List.length_append, ba_len, h c (by simp), catN_len r fun x hx => h x (by simp [hx]), List.length_cons]
    omega
theorem varL_le (n : Nat) : (varL n).length ≤ 11 := (varF_len 10 n).2
theorem txt_size {x : Nr} (h : fitN x = 0) : (txtN x).length ≤ 2000000 := by
  obtain ⟨kk, m, t, hk, hkk, hm, _, ht, _, ha, h2, h3⟩ := fit_nums h
  have v1 := varL_le x.kind.toNat
  have v2 := varL_le x.mode.toNat
  have v3 := varL_le x.time.toNat
  have v4 := varL_le x.at_.size
  have v5 : (tailN x).length ≤ 1048620 := by
    rcases hkk with rfl | rfl | rfl
    · rw [tailN_1 hk]; exact Nat.zero_le _
    · obtain ⟨z, _, z2, z3, z4⟩ := h2 rfl
      have u1 := varL_le x.size.toNat
      have u2 := varL_le x.chunks.length
      rw [tailN_2 hk]
      simp only [List.length_append, catN_len _ z4]
      omega
    · have u1 := varL_le x.target.size
      have := h3 rfl
      rw [tailN_3 hk]
      unfold textL
      simp only [List.length_append, ba_len]
      omega
  unfold txtN textL
  simp only [List.length_append, ba_len]
  omega
theorem body_size : ∀ (l : List Nr), (∀ x ∈ l, fitN x = 0) → (bodyN l).length ≤ 2000000 * l.length
  | [], _ => Nat.le_refl _
  | x :: r, h => by
    have e : bodyN (x :: r) = txtN x ++ bodyN r := rfl
    have h1 := txt_size (h x (by simp))
    have h2 := body_size r fun y hy => h y (by simp [hy])
    rw [e, List.length_append, List.length_cons]
    omega
theorem enc_size {l : List Nr} (h : chkN l = 0) : (bs (encN l)).size ≤ 400000011 := by
  obtain ⟨h1, h2⟩ := chk_fit h
  have h3 := body_size l h2
  have h4 := varL_le l.length
  rw [bs_size]
  unfold encN
  rw [List.length_append]
  omega
theorem bs_snoc (l : List UInt8) (c : UInt8) : bs l ++ ⟨#[c]⟩ = bs (l ++ [c]) := by
  apply ba_inj
  rw [ByteArray.data_append, Array.toList_append, bs_list, bs_list]
theorem run_str1 {P : Program} (w : World) (src dst e : TypeId) (hs : P.underlying src = some (.slice e)) (he : P.underlying e = some (.int .u8)) (hd : P.underlying dst = some .string) (a : UInt8) : (convert src dst (.slice (some ⟨w.heap.size, 0, none⟩) 1 1)).run P (w.alloc (.cells #[.int .u8 a.toNat] e)) = .ok (.string ⟨#[a]⟩) (w.alloc (.cells #[.int .u8 a.toNat] e)) :=
  run_convert_bytes_back _ src dst e ⟨w.heap.size, 0, none⟩ 1 [a] hs he hd (fun j hj => by
    have hc := (Blk.new w e #[.int .u8 a.toNat]).cell j
    rw [addr_add, Nat.zero_add, hc]
    match j, hj with
    | 0, _ => rfl)
set_option maxRecDepth 100000 in
set_option maxHeartbeats 3200000 in
theorem nunlike_all (a b : List Nr) (cb : UInt8) (A B : Option Addr) (c d : Nat) (w : World) (he : Env w) (ha : RecsI w A a) (hb : RecsI w B b) (la : a.length ≤ 140737488355328) (lb : b.length ≤ 140737488355328) (ba : ∀ x ∈ a, NrB x) (bb : ∀ x ∈ b, NrB x) :
    Calls Tryd.prog 6 #[.slice A a.length c, .slice B b.length d, .int .u8 cb.toNat] w fun e w' => e = .returned (.bool true) ∧ Below w.heap.size w w' := by
  have HE := Lib.hid fun W (hb : Below w.heap.size w W) => he.below hb
  have HAW := Lib.hid fun W (h : Env W) => awake12_any W h
  have HA := Lib.hid fun W (h : Below w.heap.size w W) => allIn_any a A c W (ha.below h) la
  have HB := Lib.hid fun W (h : Below w.heap.size w W) => allIn_any b B d W (hb.below h) lb
  have HBA := Lib.hid (inN_bnd ba)
  have HBB := Lib.hid (inN_bnd bb)
  have HPA := Lib.hid (inN_pure a)
  have HPB := Lib.hid (inN_pure b)
  have HTA := Lib.hid (inN_tell a)
  have HTB := Lib.hid (inN_tell b)
  have hla := inN_le a
  have hlb := inN_le b
  clear he ha hb ba bb
  generalize inN a = p at *
  generalize inN b = q at *
  go_enter Tryd.func6, Tryd.ntmps6
  go_wp2_with fail
  refine (HA.out _ (Below.refl _ _)).mono ?_
  rintro e w1 ⟨X, cx, rfl, hx, hb1⟩
  go_wp2_with fail
  refine (HB.out _ hb1).mono ?_
  rintro e w2 ⟨Y, cy, rfl, hy, hb2⟩
  have HX2 := Lib.hid (hx.below hb2)
  have HY2 := Lib.hid hy
  have HB2 := Lib.hid (hb1.trans (hb2.mono hb1.size))
  clear hx hy hb1 hb2 HA HB
  go_wp2_with fail
  refine (nencode_any p X cx w2 (HE.out _ HB2.out) HX2.out (fun x hx => (HBA.out x hx).1) (by omega)).mono ?_
  rintro e w3 ⟨rfl, hb3⟩
  have HX3 := Lib.hid (HX2.out.below hb3)
  have HY3 := Lib.hid (HY2.out.below hb3)
  have HB3 := Lib.hid (HB2.out.trans (hb3.mono HB2.out.size))
  clear hb3 HX2 HY2 HB2
  go_wp2_with fail
  refine (nencode_any q Y cy w3 (HE.out _ HB3.out) HY3.out (fun x hx => (HBB.out x hx).1) (by omega)).mono ?_
  rintro e w4 ⟨rfl, hb4⟩
  have HX4 := Lib.hid (HX3.out.below hb4)
  have HY4 := Lib.hid (HY3.out.below hb4)
  have HB4 := Lib.hid (HB3.out.trans (hb4.mono HB3.out.size))
  clear hb4 HX3 HY3 HB3
  by_cases hp : chkN p = 0
  · by_cases hq : chkN q = 0
    · have hsp : encS p = bs (encN p) := if_pos hp
      have hsq : encS q = bs (encN q) := if_pos hq
      have hzp := enc_size hp
      have HSAME := Lib.hid (show ((bs (encN p)).toList == (bs (encN q)).toList) = decide (p = q) by
        rw [txt_ne]
        refine decide_eq_decide.2 ⟨fun e => ?_, fun e => by rw [e]⟩
        have e2 : encN p = encN q := by rw [← bs_list (encN p), e, bs_list]
        exact encN_inj hp hq HPA.out HPB.out e2)
      have hmo := decN_more hp HPA.out cb
      rw [← bs_snoc] at hmo
      have HMORE := Lib.hid hmo
      rw [hp, hq, hsp, hsq]
      generalize bs (encN p) = s1 at *
      generalize bs (encN q) = s2 at *
      have hcv := run_str1 (P := Tryd.prog) w4 46 9 5 Tryd.underlying46 Tryd.underlying5 Tryd.underlying9 cb
      have hz1 : (⟨#[cb]⟩ : ByteArray).size = 1 := rfl
      have hcat := fun W => run_string_add_sum (P := Tryd.prog) W s1 ⟨#[cb]⟩ (by omega)
      have HD := Lib.hid fun W (h : Env W) => ndecode_any (s1 ++ ⟨#[cb]⟩) W h (by rw [ByteArray.size_append]; omega)
      clear hmo
      have HA5 := Lib.hid ((HB4.out.alloc HB4.out.size (.cells #[.int .u8 cb.toNat] 5)))
      have HX5 := Lib.hid (HX4.out.below ((Below.refl _ w4).alloc (Nat.le_refl _) (.cells #[.int .u8 cb.toNat] 5)))
      have HY5 := Lib.hid (HY4.out.below ((Below.refl _ w4).alloc (Nat.le_refl _) (.cells #[.int .u8 cb.toNat] 5)))
      go_wp2_with fail
      refine (HD.out _ (HE.out _ HA5.out)).mono ?_
      rintro e w5 ⟨D, cd, rfl, _, hb5⟩
      have HX6 := Lib.hid (HX5.out.below hb5)
      have HY6 := Lib.hid (HY5.out.below hb5)
      have HB6 := Lib.hid (HA5.out.trans (hb5.mono HA5.out.size))
      rw [HMORE.out]
      clear hb5 HX5 HY5 HA5 HX4 HY4 HB4 hcv hcat
      go_wp2_with fail
      refine (HAW.out _ (HE.out _ HB6.out)).mono ?_
      rintro e w6 ⟨rfl, hb6⟩
      have HX7 := Lib.hid (HX6.out.below hb6)
      have HY7 := Lib.hid (HY6.out.below hb6)
      have HB7 := Lib.hid (HB6.out.trans (hb6.mono HB6.out.size))
      clear hb6 HX6 HY6 HB6
      go_wp2_with fail
      refine (list_any p X cx w6 HX7.out (fun x hx => Nat.le_trans (HBA.out x hx).2 (by decide)) (by omega)).mono ?_
      rintro e w7 ⟨E, ce, rfl, hr7, hg7, hb7⟩
      rw [HTA.out] at hr7
      have HY8 := Lib.hid (HY7.out.below hb7)
      have HB8 := Lib.hid (HB7.out.trans (hb7.mono HB7.out.size))
      have HR8 := Lib.hid hr7
      clear hb7 HX7 HY7 HB7 hr7
      go_wp2_with fail
      refine (list_any q Y cy w7 HY8.out (fun x hx => Nat.le_trans (HBB.out x hx).2 (by decide)) (by omega)).mono ?_
      rintro e w8 ⟨F, cf, rfl, hr9, hg9, hb9⟩
      rw [HTB.out] at hr9
      have HR9 := Lib.hid (HR8.out.below hb9)
      have HB9 := Lib.hid (HB8.out.trans (hb9.mono HB8.out.size))
      have HS9 := Lib.hid hr9
      clear hb9 HY8 HB8 HR8 hr9
      go_wp2_with fail
      refine (nsame_any p q E F ce cf w8 HR9.out HS9.out (by omega) (fun x hx => Nat.le_trans (HBA.out x hx).2 (by decide))).mono ?_
      rintro e w9 ⟨rfl, hb10⟩
      have HS := HSAME.out
      by_cases hpq : p = q
      · rw [decide_eq_true hpq] at HS ⊢
        go_wp2
        go_ret
        exact ⟨rfl, HB9.out.trans (hb10.mono HB9.out.size)⟩
      · rw [decide_eq_false hpq] at HS ⊢
        go_wp2
        go_ret
        exact ⟨rfl, HB9.out.trans (hb10.mono HB9.out.size)⟩
    · have hsq : encS q = noB := if_neg hq
      have hne : (((chkN q : Nat) : Int) != 0) = true := by rw [bne_iff_ne]; omega
      have hne2 : (((chkN q : Nat) : Int) == 0) = false := by rw [beq_eq_false_iff_ne]; omega
      rw [hp, hsq]
      unfold noB
      go_wp2_with fail
      refine (HAW.out _ (HE.out _ HB4.out)).mono ?_
      rintro e w5 ⟨rfl, hb5⟩
      go_wp2
      go_ret
      exact ⟨rfl, HB4.out.trans (hb5.mono HB4.out.size)⟩
  · have hsp : encS p = noB := if_neg hp
    have hne : (((chkN p : Nat) : Int) != 0) = true := by rw [bne_iff_ne]; omega
    have hne2 : (((chkN p : Nat) : Int) == 0) = false := by rw [beq_eq_false_iff_ne]; omega
    rw [hsp]
    unfold noB
    by_cases hq : chkN q = 0
    · rw [hq]
      go_wp2_with fail
      refine (HAW.out _ (HE.out _ HB4.out)).mono ?_
      rintro e w5 ⟨rfl, hb5⟩
      go_wp2
      go_ret
      exact ⟨rfl, HB4.out.trans (hb5.mono HB4.out.size)⟩
    · have hsq : encS q = noB := if_neg hq
      have hne3 : (((chkN q : Nat) : Int) == 0) = false := by rw [beq_eq_false_iff_ne]; omega
      rw [hsq]
      unfold noB
      go_wp2_with fail
      refine (HAW.out _ (HE.out _ HB4.out)).mono ?_
      rintro e w5 ⟨rfl, hb5⟩
      go_wp2
      go_ret
      exact ⟨rfl, HB4.out.trans (hb5.mono HB4.out.size)⟩
end Go.Proofs.YtaoejgnfoecpfaaDoor
