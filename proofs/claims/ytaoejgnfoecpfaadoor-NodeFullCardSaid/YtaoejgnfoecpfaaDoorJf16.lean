/- A tree's nodes: the program's nodes of records. NodeFull, walked. -/
import Derived.Test.YtaoejgnfoecpfaaDoorJf15
import Derived.Test.YtaoejgnfoecpfaaDoorJf8
namespace Go.Proofs.YtaoejgnfoecpfaaDoor
set_option linter.unusedVariables false
set_option linter.unusedSimpArgs false
set_option linter.unusedSectionVars false
open Go.RowKit

/-- a record cut to 20 chunks -/
def cutN (x : Nr) : Nr := ⟨x.kind, x.at_, x.mode, x.time, x.size, x.chunks.take 20, x.target⟩
/-- rows of records that came in -/
def RecsI (w : World) (A : Option Addr) (l : List Nr) : Prop := 0 < l.length → ∃ g o, A = some ⟨g, o, none⟩ ∧ g < w.heap.size ∧ ∀ (i : Nat) (x : Nr), l[i]? = some x → ∃ B c, (∀ (j : Nat) (u : Value), (recC x B c)[j]? = some u → w.cell? ⟨g, o + i * 7 + j, none⟩ = some u) ∧ StrsA w w.heap.size B x.chunks ∧ x.chunks.length ≤ c ∧ (B = none → c = 0)
theorem RecsI.below {w w' : World} {A : Option Addr} {l : List Nr} (h : RecsI w A l) (hb : Below w.heap.size w w') : RecsI w' A l := fun hl => by
  obtain ⟨g, o, rfl, hg, hc⟩ := h hl
  refine ⟨g, o, rfl, Nat.lt_of_lt_of_le hg hb.size, fun i x hi => ?_⟩
  obtain ⟨B, c, h1, h2, h3, h4⟩ := hc i x hi
  exact ⟨B, c, fun j u hj => (hb.cell (p := ⟨g, o + i * 7 + j, none⟩) hg).trans (h1 j u hj), h2.below hb, h3, h4⟩
theorem node_form {w : World} {v : Value} {x : Nr} (h : NodeIs w v x) : v = .nilIface ∨ ∃ t u, v = .iface t u := by
  rcases h with ⟨_, h⟩ | ⟨_, A, c', h, _, _⟩ | ⟨_, h⟩ | ⟨_, h | ⟨_, h⟩⟩
  · exact .inr ⟨_, _, h⟩
  · exact .inr ⟨_, _, h⟩
  · exact .inr ⟨_, _, h⟩
  · exact .inl h
  · exact .inr ⟨_, _, h⟩
def AllPost (l : List Nr) (w : World) (e : Ending) (w' : World) : Prop :=
  ∃ A c, e = .returned (.slice A ((l.take 210).map cutN).length c) ∧ NodesA w' A ((l.take 210).map cutN) ∧ Below w.heap.size w w'
set_option maxRecDepth 100000 in
set_option maxHeartbeats 3200000 in
theorem all_any (l : List Nr) (A : Option Addr) (c : Nat) (w : World) (h : RecsI w A l) (hl : l.length ≤ 140737488355328) : Calls Tryd.prog 18 #[.slice A l.length c] w (AllPost l w) := by
  have HN := Lib.hid fun W (hb : Below w.heap.size w W) => h.below hb
  clear h
  go_enter Tryd.func18, Tryd.ntmps18
  go_wp2
  have hb0 := (Below.refl w.heap.size w).alloc (Nat.le_refl _) (.cells #[] 35)
  go_loopw [3, 4, 5] (fun ov iv pv wr => ∃ (k : Nat) (vs : List Value) (B : Option Addr) (d : Nat) (u : Value), ov = .slice B k d ∧ iv = .int .i64 (k : Nat) ∧ pv = u ∧ k ≤ l.length ∧ k ≤ 210 ∧ vs.length = k ∧ wr.ownsRow w.heap.size 35 1 (.slice B k d) k vs ∧ NodesV wr (fun j => (Value.slice B k d).ownBlock ≠ some j) vs ((l.take k).map cutN) ∧ Below w.heap.size w wr) (fun _ iv _ _ => l.length - (intOf iv).toNat)
  case atStart => exact ⟨0, [], some ⟨w.heap.size, 0, none⟩, 0, _, rfl, rfl, rfl, Nat.zero_le _, Nat.zero_le _, rfl, own_emptyN (Nat.le_refl _), fun i x hx => by simp at hx, hb0⟩
  case round =>
    obtain ⟨k, vs, B, d, u, rfl, rfl, rfl, hk, hk10, hvl, how, hnv, hbel⟩ := hrel
    have HO := Lib.hid how
    have HV := Lib.hid hnv
    have HB := Lib.hid hbel
    clear how hnv hb0
    by_cases hkl : k < l.length ∧ k < 210
    · obtain ⟨hkl, hk2⟩ := hkl
      obtain ⟨g, o, rfl, hg, hcc⟩ := HN.out wr hbel (by omega)
      obtain ⟨X, cx, hcx, hsx, hlx, hnx⟩ := hcc k l[k] (List.getElem?_eq_getElem hkl)
      have HR2 := Lib.hid (show (l.take (k + 1)).map cutN = (l.take k).map cutN ++ [cutN l[k]] by rw [List.take_succ_eq_append_getElem hkl, List.map_append]; rfl)
      clear hcc hbel
      generalize l[k] = x at *
      obtain ⟨kind, a, m, t, z, ch, tg⟩ := x
      have q0 : wr.cell? ⟨g, o + k * 7, none⟩ = some (.int .i64 kind) := hcx 0 _ rfl
      have q1 : wr.cell? ⟨g, o + k * 7 + 1, none⟩ = some (.string a) := hcx 1 _ rfl
      have q2 : wr.cell? ⟨g, o + k * 7 + 2, none⟩ = some (.int .i64 m) := hcx 2 _ rfl
      have q3 : wr.cell? ⟨g, o + k * 7 + 3, none⟩ = some (.int .i64 t) := hcx 3 _ rfl
      have q4 : wr.cell? ⟨g, o + k * 7 + 4, none⟩ = some (.int .i64 z) := hcx 4 _ rfl
      have q5 : wr.cell? ⟨g, o + k * 7 + 5, none⟩ = some (.slice X ch.length cx) := hcx 5 _ rfl
      have q6 : wr.cell? ⟨g, o + k * 7 + 6, none⟩ = some (.string tg) := hcx 6 _ rfl
      have hk0 : (0 : Int) ≤ (k : Int) := by omega
      have hki : (k : Int) < (l.length : Int) := by omega
      have hk210 : (k : Int) < 210 := by omega
      have hk3 : ((k : Int)).toNat = k := by omega
      clear hcx
      by_cases h20 : 20 < ch.length
      · obtain ⟨bx, ox, rfl, hbx, hcb⟩ := hsx (by show 0 < ch.length; omega)
        have h20i : (20 : Int) < (ch.length : Int) := by omega
        simp only at hlx
        have HT := Lib.hid fun W (hb : Below wr.heap.size wr W) => (by
          have h1 := of_any ⟨kind, a, m, t, z, ch.take 20, tg⟩ (some ⟨bx, ox, none⟩) cx W (StrsA.below (W := wr) (fun _ => ⟨bx, ox, rfl, hbx, fun j u hj => hcb j u (by
            rw [List.getElem?_take] at hj
            split at hj
            · exact hj
            · cases hj)⟩) hb) (fun h => by cases h) (by simp only [List.length_take]; omega)
          unfold recC at h1
          simp only [List.length_take, Nat.min_eq_left (Nat.le_of_lt h20)] at h1
          exact h1 : Calls Tryd.prog 41 #[.agg #[.int .i64 kind, .string a, .int .i64 m, .int .i64 t, .int .i64 z, .slice (some ⟨bx, ox, none⟩) 20 cx, .string tg]] W (OfPost (cutN ⟨kind, a, m, t, z, ch, tg⟩) W))
        clear hcb hsx
        go_wp2_with fail
        refine (HT.out _ (((Below.refl wr.heap.size wr).alloc (Nat.le_refl _) _))).mono ?_
        rintro e w2 ⟨v, rfl, hv2, hnb2, hb2, _, _⟩
        have hb3 : Below wr.heap.size wr w2 := (((Below.refl wr.heap.size wr).alloc (Nat.le_refl _) _)).trans (hb2.mono (by simp))
        have hnw : ∀ j, NodeBlk v j → (Value.slice B k d).ownBlock ≠ some j := fun j hj e => by
          have h1 := hnb2 j hj
          have h2 := (HO.out.lt j e).2
          simp at h1
          omega
        have HO2 := Lib.hid (own_atN HO.out (w' := w2) fun i hi => hb3.block i (HO.out.lt i hi).2)
        have HV2 := Lib.hid (((HV.out.keep (Q := fun j => (Value.slice B k d).ownBlock ≠ some j) hb3.size fun k hk hl => ⟨hb3.block k hl, hk⟩).snoc (by rw [List.length_map, List.length_take]; omega) hv2 hnw))
        have HB2 := Lib.hid (HB.out.trans (hb3.mono HB.out.size))
        have hvf := node_form hv2
        clear hv2 hnb2 hb2 hb3 hnw
        rcases hvf with rfl | ⟨t1, u1, rfl⟩
        all_goals
          go_wp2_with (at_builtin; refine wpList_app1 rfl _ _ 30 rfl w.heap.size 35 Tryd.underlying30 infoNd rfl (by decide) _ _ _ rfl HO2.out _ rfl rfl (by simp [Value.oneCell']) (by omega) (by omega) HB2.out.size ?_)
          intro g5 cap5 w5 ho5 hg5 hb5 hl5
          have HB5 := Lib.hid (HB2.out.grown hg5 HB2.out.size fun j hj => (HO2.out.lt j hj).1)
          have HV5 := Lib.hid (HV2.out.keep (Q := fun j => (Value.slice (some ⟨g5, 0, none⟩) (k + 1) cap5).ownBlock ≠ some j) hg5.size fun j hk hl => ⟨hg5.block j hl (fun e => hk e.symm), fun e => by
            simp only [Value.ownBlock, Option.some.injEq] at e
            subst e
            rcases hl5 with h | h
            · exact hk h
            · omega⟩)
          have HO5 := Lib.hid ho5
          clear ho5 hg5 hb5 hl5
          go_wp2
          go_roundw
          case rel => exact ⟨k + 1, _, some ⟨g5, 0, none⟩, cap5, _, rfl, by go_num, rfl, by omega, by omega, by simp [hvl], HO5.out, by rw [HR2.out]; exact HV5.out, HB5.out⟩
          case measure => simp [intOf]; omega
      · have h20i : ¬ (20 : Int) < (ch.length : Int) := by omega
        have HT := Lib.hid fun W (hb : Below wr.heap.size wr W) => (by
          have h1 := of_any ⟨kind, a, m, t, z, ch, tg⟩ X cx W (hsx.below hb) hnx (by show ch.length ≤ 1000000; omega)
          unfold recC at h1
          have e : cutN ⟨kind, a, m, t, z, ch, tg⟩ = ⟨kind, a, m, t, z, ch, tg⟩ := by unfold cutN; simp only; rw [List.take_of_length_le (by omega)]
          rw [e]
          exact h1 : Calls Tryd.prog 41 #[.agg #[.int .i64 kind, .string a, .int .i64 m, .int .i64 t, .int .i64 z, .slice X ch.length cx, .string tg]] W (OfPost (cutN ⟨kind, a, m, t, z, ch, tg⟩) W))
        clear hsx
        go_wp2_with fail
        refine (HT.out _ (((Below.refl wr.heap.size wr).alloc (Nat.le_refl _) _))).mono ?_
        rintro e w2 ⟨v, rfl, hv2, hnb2, hb2, _, _⟩
        have hb3 : Below wr.heap.size wr w2 := (((Below.refl wr.heap.size wr).alloc (Nat.le_refl _) _)).trans (hb2.mono (by simp))
        have hnw : ∀ j, NodeBlk v j → (Value.slice B k d).ownBlock ≠ some j := fun j hj e => by
          have h1 := hnb2 j hj
          have h2 := (HO.out.lt j e).2
          simp at h1
          omega
        have HO2 := Lib.hid (own_atN HO.out (w' := w2) fun i hi => hb3.block i (HO.out.lt i hi).2)
        have HV2 := Lib.hid (((HV.out.keep (Q := fun j => (Value.slice B k d).ownBlock ≠ some j) hb3.size fun k hk hl => ⟨hb3.block k hl, hk⟩).snoc (by rw [List.length_map, List.length_take]; omega) hv2 hnw))
        have HB2 := Lib.hid (HB.out.trans (hb3.mono HB.out.size))
        have hvf := node_form hv2
        clear hv2 hnb2 hb2 hb3 hnw
        rcases hvf with rfl | ⟨t1, u1, rfl⟩
        all_goals
          go_wp2_with (at_builtin; refine wpList_app1 rfl _ _ 30 rfl w.heap.size 35 Tryd.underlying30 infoNd rfl (by decide) _ _ _ rfl HO2.out _ rfl rfl (by simp [Value.oneCell']) (by omega) (by omega) HB2.out.size ?_)
          intro g5 cap5 w5 ho5 hg5 hb5 hl5
          have HB5 := Lib.hid (HB2.out.grown hg5 HB2.out.size fun j hj => (HO2.out.lt j hj).1)
          have HV5 := Lib.hid (HV2.out.keep (Q := fun j => (Value.slice (some ⟨g5, 0, none⟩) (k + 1) cap5).ownBlock ≠ some j) hg5.size fun j hk hl => ⟨hg5.block j hl (fun e => hk e.symm), fun e => by
            simp only [Value.ownBlock, Option.some.injEq] at e
            subst e
            rcases hl5 with h | h
            · exact hk h
            · omega⟩)
          have HO5 := Lib.hid ho5
          clear ho5 hg5 hb5 hl5
          go_wp2
          go_roundw
          case rel => exact ⟨k + 1, _, some ⟨g5, 0, none⟩, cap5, _, rfl, by go_num, rfl, by omega, by omega, by simp [hvl], HO5.out, by rw [HR2.out]; exact HV5.out, HB5.out⟩
          case measure => simp [intOf]; omega
    · have hcs : ¬ (k : Int) < (l.length : Int) ∨ ((k : Int) < (l.length : Int) ∧ ¬ (k : Int) < 210) := by omega
      have hte : l.take k = l.take 210 := by
        rcases Nat.lt_or_ge k 210 with h | h
        · rw [List.take_of_length_le (by omega), List.take_of_length_le (by omega)]
        · rw [show k = 210 by omega]
      have hlen : ((l.take 210).map cutN).length = k := by rw [← hte, List.length_map, List.length_take]; omega
      have HX := Lib.hid (show NodesA wr B ((l.take 210).map cutN) by
        rw [← hte]
        exact HV.out.row HO.out)
      clear hkl hte
      rcases hcs with h1 | ⟨h1, h2⟩
      all_goals
        go_wp2
        go_ret
        exact ⟨B, d, by rw [hlen]; rfl, HX.out, HB.out⟩
end Go.Proofs.YtaoejgnfoecpfaaDoor
namespace Go.Proofs.YtaoejgnfoecpfaaDoor
set_option linter.unusedVariables false
set_option linter.unusedSimpArgs false
set_option linter.unusedSectionVars false
open Go.RowKit

def folA (n j : Nat) : Value := folV (atF n j) 0 0
theorem folsV (w : World) (n m : Nat) : NodesV w (fun _ => True) ((List.range m).map (folA n)) ((List.range m).map (fF n)) := fun i x hx => by
  rw [List.getElem?_map] at hx
  obtain ⟨j, hj, rfl⟩ := Option.map_eq_some_iff.1 hx
  exact ⟨folA n j, by rw [List.getElem?_map, hj]; rfl, .inl ⟨rfl, rfl⟩, fun _ _ => trivial⟩
theorem run_str2 {P : Program} (w : World) (src dst e : TypeId) (hs : P.underlying src = some (.slice e)) (he : P.underlying e = some (.int .u8)) (hd : P.underlying dst = some .string) (a b : UInt8) : (convert src dst (.slice (some ⟨w.heap.size, 0, none⟩) 2 2)).run P (w.alloc (.cells #[.int .u8 a.toNat, .int .u8 b.toNat] e)) = .ok (.string ⟨#[a, b]⟩) (w.alloc (.cells #[.int .u8 a.toNat, .int .u8 b.toNat] e)) :=
  run_convert_bytes_back _ src dst e ⟨w.heap.size, 0, none⟩ 2 [a, b] hs he hd (fun j hj => by
    have hc := (Blk.new w e #[.int .u8 a.toNat, .int .u8 b.toNat]).cell j
    rw [addr_add, Nat.zero_add, hc]
    match j, hj with
    | 0, _ => rfl
    | 1, _ => rfl)
theorem conv_name (w : World) (k : Nat) (q r : Int) (hk : k < 260) (hq : q = 97 + (k : Int) / 26) (hr : r = 97 + (k : Int) % 26) : (convert 46 9 (.slice (some ⟨w.heap.size, 0, none⟩) 2 2)).run Tryd.prog (w.alloc (.cells #[.int .u8 q, .int .u8 r] 5)) = .ok (.string (deepF k 0)) (w.alloc (.cells #[.int .u8 q, .int .u8 r] 5)) := by
  have h := run_str2 (P := Tryd.prog) w 46 9 5 Tryd.underlying46 Tryd.underlying5 Tryd.underlying9 (UInt8.ofNat (97 + k / 26)) (UInt8.ofNat (97 + k % 26))
  have e1 : ((UInt8.ofNat (97 + k / 26)).toNat : Int) = q := by
    rw [UInt8.toNat_ofNat', hq]
    omega
  have e2 : ((UInt8.ofNat (97 + k % 26)).toNat : Int) = r := by
    rw [UInt8.toNat_ofNat', hr]
    omega
  rw [e1, e2] at h
  exact h
set_option maxRecDepth 100000 in
set_option maxHeartbeats 3200000 in
theorem nfull_in (n deep : Nat) (w : World) (he : Env w) (hn : 1 ≤ n) (hn2 : n ≤ 260) (hd : 1 ≤ deep) (hd2 : deep ≤ 10) :
    Calls Tryd.prog 5 #[.int .i64 n, .int .i64 deep] w fun e w' => e = .returned (.bool true) ∧ Below w.heap.size w w' := by
  have HE := Lib.hid fun W (hb : Below w.heap.size w W) => he.below hb
  have HAW := Lib.hid fun W (h : Env W) => awake12_any W h
  have HCK := Lib.hid (chk_full hn hn2 hd hd2)
  have HEN := Lib.hid (enc_full hn hd)
  clear he
  have a1 : ¬ (n : Int) < 1 := by omega
  have a2 : ¬ (260 : Int) < n := by omega
  have a3 : ¬ (deep : Int) < 1 := by omega
  have a4 : ¬ (10 : Int) < deep := by omega
  go_enter Tryd.func5, Tryd.ntmps5
  go_wp2
  have hb0 := (Below.refl w.heap.size w).alloc (Nat.le_refl _) (.cells #[] 35)
  go_loopw [5, 6] (fun ov iv wr => ∃ (k : Nat) (B : Option Addr) (d : Nat), ov = .slice B k d ∧ iv = .int .i64 (k : Nat) ∧ k ≤ n ∧ wr.ownsRow w.heap.size 35 1 (.slice B k d) k ((List.range k).map (folA n)) ∧ Below w.heap.size w wr) (fun _ iv _ => n - (intOf iv).toNat)
  case atStart => exact ⟨0, some ⟨w.heap.size, 0, none⟩, 0, rfl, rfl, Nat.zero_le _, own_emptyN (Nat.le_refl _), hb0⟩
  case round =>
    obtain ⟨k, B, d, rfl, rfl, hk, how, hbel⟩ := hrel
    have HO := Lib.hid how
    have HB := Lib.hid hbel
    clear how hb0 hbel
    by_cases hkl : k < n
    · as_aux_lemma =>
      have hki : (k : Int) < (n : Int) := by omega
      have hcv := conv_name wr k _ _ (by omega) rfl rfl
      have hb1 := (Below.refl wr.heap.size wr).alloc (Nat.le_refl _) (.cells #[.int .u8 (97 + (k : Int) / 26), .int .u8 (97 + (k : Int) % 26)] 5)
      have HO1 := Lib.hid (own_atN HO.out fun i hi => hb1.block i (HO.out.lt i hi).2)
      have HB1 := Lib.hid (HB.out.trans (hb1.mono HB.out.size))
      have HA := Lib.hid (show deepF k 0 = atF n k by unfold atF; rw [if_pos hkl])
      clear hb1
      go_wp2_with (at_builtin; refine wpList_app1s rfl _ _ 30 rfl w.heap.size 35 Tryd.underlying30 infoNd rfl (by decide) _ _ _ rfl HO1.out _ (by simp) rfl rfl (by simp [Value.oneCell']) (by omega) (by omega) HB1.out.size ?_)
      intro g5 cap5 w5 ho5 hg5 hb5 hl5
      have HO5 := Lib.hid (show w5.ownsRow w.heap.size 35 1 (.slice (some ⟨g5, 0, none⟩) (k + 1) cap5) (k + 1) ((List.range (k + 1)).map (folA n)) by
        rw [List.range_succ, List.map_append]
        have h5 := ho5
        rw [HA.out] at h5
        exact h5)
      have HB5 := Lib.hid (HB1.out.grown hg5 HB1.out.size fun j hj => (HO1.out.lt j hj).1)
      clear ho5 hg5 hb5 hl5
      go_wp2
      go_roundw
      case rel => exact ⟨k + 1, some ⟨g5, 0, none⟩, cap5, rfl, by go_num, by omega, HO5.out, HB5.out⟩
      case measure => simp [intOf]; omega
    · as_aux_lemma =>
      obtain rfl : k = n := by omega
      have hki : ¬ (k : Int) < (k : Int) := by omega
      obtain ⟨m, hm⟩ : ∃ m, k = m + 1 := ⟨k - 1, by omega⟩
      have hm1 : (k : Int) - 1 = (m : Int) := by omega
      have hm2 : m < 260 := by omega
      have HM := Lib.hid hm
      clear hm
      have hcv := conv_name wr m _ _ hm2 rfl rfl
      have hb1 := (Below.refl wr.heap.size wr).alloc (Nat.le_refl _) (.cells #[.int .u8 (97 + (m : Int) / 26), .int .u8 (97 + (m : Int) % 26)] 5)
      have HO1 := Lib.hid (own_atN HO.out fun i hi => hb1.block i (HO.out.lt i hi).2)
      have HB1 := Lib.hid (HB.out.trans (hb1.mono HB.out.size))
      clear hb1 HO HB
      go_wp2
      go_loopw [5, 7, 8] (fun ov sv iv wr => ∃ (i : Nat) (B : Option Addr) (d : Nat), ov = .slice B (k + i) d ∧ sv = .string (deepF m i) ∧ iv = .int .i64 (i + 1 : Nat) ∧ i + 1 ≤ deep ∧ Hid (wr.ownsRow w.heap.size 35 1 (.slice B (k + i) d) (k + i) ((List.range (k + i)).map (folA k))) ∧ Hid (Below w.heap.size w wr)) (fun _ _ iv _ => deep - (intOf iv).toNat)
      case atStart => exact ⟨0, B, d, rfl, rfl, rfl, hd, HO1, HB1⟩
      case round =>
        clear HO1 HB1
        obtain ⟨i, B, d, rfl, rfl, rfl, hi, HO, HB⟩ := hrel
        by_cases hid : i + 1 < deep
        · have hiz : ((i + 1 : Nat) : Int) < (deep : Int) := by omega
          have hsz : (deepF m i).size = 2 + 2 * i := deepF_len m i
          have hcat := fun W => run_string_add_sum (P := Tryd.prog) W (deepF m i) ⟨#[47, 120]⟩ (by rw [hsz]; show 2 + 2 * i + 2 ≤ _; omega)
          have hde : deepF m i ++ ⟨#[47, 120]⟩ = deepF m (i + 1) := by
            apply ba_inj
            unfold deepF
            simp [sxL, ByteArray.data_append]
          have HA := Lib.hid (show deepF m (i + 1) = atF k (k + i) by unfold atF; rw [if_neg (by omega), show k - 1 = m by have := HM.out; omega, show k + i + 1 - k = i + 1 by omega])
          have hb5 := (Below.refl wr.heap.size wr).alloc (Nat.le_refl _) (.cells #[.iface 26 (.agg #[.string (deepF m (i + 1)), .int .i64 0, .int .i64 0])] 35)
          have hbw := HB.out.size
          go_wp2_with (at_builtin; refine wpList_app1 rfl _ _ 30 rfl w.heap.size 35 Tryd.underlying30 infoNd rfl (by decide) _ _ _ rfl HO.out _ rfl rfl (by simp [Value.oneCell']) (by omega) (by omega) hbw ?_)
          intro g5 cap5 w5 ho5 hg5 hbl5 hl5
          have HO5 := Lib.hid (show w5.ownsRow w.heap.size 35 1 (.slice (some ⟨g5, 0, none⟩) (k + (i + 1)) cap5) (k + (i + 1)) ((List.range (k + (i + 1))).map (folA k)) by
            rw [show k + (i + 1) = k + i + 1 by omega, List.range_succ, List.map_append]
            have h5 := ho5
            rw [HA.out] at h5
            exact h5)
          have HB5 := Lib.hid (HB.out.grown hg5 HB.out.size fun j hj => (HO.out.lt j hj).1)
          clear ho5 hg5 hbl5 hl5 hb5
          go_wp2
          go_roundw
          case rel => exact ⟨i + 1, some ⟨g5, 0, none⟩, cap5, rfl, rfl, by go_num, by omega, HO5, HB5⟩
          case measure => simp [intOf]; omega
        · have hiz : ¬ ((i + 1 : Nat) : Int) < (deep : Int) := by omega
          have hid2 : i + 1 = deep := by omega
          have HNA := Lib.hid (show NodesA wr B (lstF k deep) by
            have := (folsV wr k (k + i)).row HO.out
            unfold lstF
            rw [show k + deep - 1 = k + i by omega]
            exact this)
          have hlen : (lstF k deep).length = k + i := by
            unfold lstF
            rw [List.length_map, List.length_range]
            omega
          have henc := nencode_any (lstF k deep) B d wr (HE.out _ HB.out) HNA.out (fun x hx => by
            unfold lstF at hx
            obtain ⟨j, hj, rfl⟩ := List.mem_map.1 hx
            have hj2 := List.mem_range.1 hj
            have hs : (fF k j).at_.size ≤ 1000 := by
              show (atF k j).size ≤ 1000
              unfold atF
              split
              · rw [deepF_len]; omega
              · rw [deepF_len]; omega
            exact ⟨Nat.le_trans hs (by decide), Nat.zero_le _, Nat.zero_le _, (fun c hc => (by cases hc)), (show (-9223372036854775808 : Int) ≤ 0 ∧ (0 : Int) ≤ 9223372036854775807 by decide), (show (-9223372036854775808 : Int) ≤ 0 ∧ (0 : Int) ≤ 9223372036854775807 by decide), (show (-9223372036854775808 : Int) ≤ 0 ∧ (0 : Int) ≤ 9223372036854775807 by decide)⟩) (by omega)
          rw [hlen, HCK.out] at henc
          have HC := Lib.hid henc
          have HZ := Lib.hid (show wantF k deep = 0 → encS (lstF k deep) = bs (encN (lstF k deep)) from fun h => if_pos (HCK.out.trans h))
          clear henc hcv
          generalize encS (lstF k deep) = es at *
          have hcs : (200 < k + i ∧ wantF k deep = 2) ∨ (¬ 200 < k + i ∧ 8 < deep ∧ wantF k deep = 11) ∨ (¬ 200 < k + i ∧ ¬ 8 < deep ∧ wantF k deep = 0) := by
            unfold wantF
            rw [show k + deep - 1 = k + i by omega]
            by_cases h1 : 200 < k + i
            · exact .inl ⟨h1, if_pos h1⟩
            · by_cases h2 : 8 < deep
              · exact .inr (.inl ⟨h1, h2, by rw [if_neg h1, if_pos h2]⟩)
              · exact .inr (.inr ⟨h1, h2, by rw [if_neg h1, if_neg h2]⟩)
          rcases hcs with ⟨h1, h3⟩ | ⟨h1, h2, h3⟩ | ⟨h1, h2, h3⟩
          · as_aux_lemma =>
            have h1z : (200 : Int) < (k : Int) + (i : Int) := by omega
            rw [h3] at HC
            clear h1 h3 HZ
            go_wp2_with fail
            refine HC.out.mono ?_
            rintro e w7 ⟨rfl, hb7⟩
            have HB7 := Lib.hid (HB.out.trans (hb7.mono HB.out.size))
            clear hb7
            go_wp2_with fail
            refine (HAW.out _ (HE.out _ HB7.out)).mono ?_
            rintro e w8 ⟨rfl, hb8⟩
            have HB8 := Lib.hid (HB7.out.trans (hb8.mono HB7.out.size))
            clear hb8
            go_wp2
            go_ret
            exact ⟨rfl, HB8.out⟩
          · as_aux_lemma =>
            have h1z : ¬ (200 : Int) < (k : Int) + (i : Int) := by omega
            have h2z : (8 : Int) < (deep : Int) := by omega
            rw [h3] at HC
            clear h1 h2 h3 HZ
            go_wp2_with fail
            refine HC.out.mono ?_
            rintro e w7 ⟨rfl, hb7⟩
            have HB7 := Lib.hid (HB.out.trans (hb7.mono HB.out.size))
            clear hb7
            go_wp2_with fail
            refine (HAW.out _ (HE.out _ HB7.out)).mono ?_
            rintro e w8 ⟨rfl, hb8⟩
            have HB8 := Lib.hid (HB7.out.trans (hb8.mono HB7.out.size))
            clear hb8
            go_wp2
            go_ret
            exact ⟨rfl, HB8.out⟩
          · as_aux_lemma =>
            have h1z : ¬ (200 : Int) < (k : Int) + (i : Int) := by omega
            have h2z : ¬ (8 : Int) < (deep : Int) := by omega
            have hz := HZ.out h3
            have hsz : (5 : Int) * (k : Int) < (es.size : Int) := by
              have := HEN.out
              rw [hz]
              omega
            rw [h3] at HC
            clear h1 h2 h3 hz HZ HEN
            go_wp2_with fail
            refine HC.out.mono ?_
            rintro e w7 ⟨rfl, hb7⟩
            have HB7 := Lib.hid (HB.out.trans (hb7.mono HB.out.size))
            clear hb7
            go_wp2_with fail
            refine (HAW.out _ (HE.out _ HB7.out)).mono ?_
            rintro e w8 ⟨rfl, hb8⟩
            have HB8 := Lib.hid (HB7.out.trans (hb8.mono HB7.out.size))
            clear hb8
            go_wp2
            go_ret
            exact ⟨rfl, HB8.out⟩
theorem nfull_all (n deep : Int) (w : World) (he : Env w) (hn : -9223372036854775808 ≤ n ∧ n ≤ 9223372036854775807) (hd : -9223372036854775808 ≤ deep ∧ deep ≤ 9223372036854775807) :
    Calls Tryd.prog 5 #[.int .i64 n, .int .i64 deep] w fun e w' => e = .returned (.bool true) ∧ Below w.heap.size w w' := by
  have HAW := Lib.hid fun W (h : Env W) => awake12_any W h
  have HE := Lib.hid he
  clear he
  by_cases hin : 1 ≤ n ∧ n ≤ 260 ∧ 1 ≤ deep ∧ deep ≤ 10
  · obtain ⟨N, rfl⟩ : ∃ N : Nat, n = N := ⟨n.toNat, by omega⟩
    obtain ⟨D, rfl⟩ : ∃ D : Nat, deep = D := ⟨deep.toNat, by omega⟩
    exact nfull_in N D w HE.out (by omega) (by omega) (by omega) (by omega)
  · have hcs : n < 1 ∨ (¬ n < 1 ∧ 260 < n) ∨ ((¬ n < 1 ∧ ¬ 260 < n) ∧ deep < 1) ∨ ((¬ n < 1 ∧ ¬ 260 < n) ∧ ¬ deep < 1 ∧ 10 < deep) := by omega
    clear hin hn hd
    rcases hcs with h | ⟨h1, h2⟩ | ⟨⟨h1, h2⟩, h3⟩ | ⟨⟨h1, h2⟩, h3, h4⟩
    all_goals
      go_enter Tryd.func5, Tryd.ntmps5
      go_wp2_with fail
      refine (HAW.out _ HE.out).mono ?_
      rintro e w1 ⟨rfl, hb1⟩
      go_wp2
      go_ret
      exact ⟨rfl, hb1⟩
end Go.Proofs.YtaoejgnfoecpfaaDoor
