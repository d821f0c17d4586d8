/- A tree's nodes: Decode. A tree's nodes: the document's cursor, Target and fit. A tree's nodes: the document's fit. -/
import Derived.Test.YtaoejgnfoecpfaaDoorJt15
namespace Go.Proofs.YtaoejgnfoecpfaaDoor
set_option linter.unusedVariables false
set_option linter.unusedSimpArgs false
set_option linter.unusedSectionVars false
open Go.RowKit

theorem infoNd : (Tryd.prog.info? 35).map (fun i => (i.zero, i.size, i.bytes)) = some (some .nilIface, 1, 16) := by kernel_rfl
/-- what a read of nodes gives -/
def DecNPost (s : ByteArray) (w : World) (r : Ending) (w' : World) : Prop :=
  ∃ A c, r = .returned (.tuple #[.slice A (decN s).1.length c, .int .i64 ((decN s).2 : Nat)]) ∧ NodesA w' A (decN s).1 ∧ Below w.heap.size w w'
/-- the values are those records' nodes, each's chunks in blocks of which P holds -/
def NodesV (w : World) (P : Nat → Prop) (vs : List Value) (l : List Nr) : Prop := ∀ (i : Nat) (x : Nr), l[i]? = some x → ∃ v, vs[i]? = some v ∧ NodeIs w v x ∧ ∀ k, NodeBlk v k → P k
theorem NodesV.keep {w w' : World} {P Q : Nat → Prop} {vs : List Value} {l : List Nr} (h : NodesV w P vs l) (hs : w.heap.size ≤ w'.heap.size) (hk : ∀ k, P k → k < w.heap.size → w'.heap[k]? = w.heap[k]? ∧ Q k) : NodesV w' Q vs l := fun i x hx => by
  obtain ⟨v, h1, h2, h3⟩ := h i x hx
  exact ⟨v, h1, h2.keep hs (fun k hb hl => (hk k (h3 k hb) hl).1), fun k hb => (hk k (h3 k hb) (h2.blk_lt hb)).2⟩
theorem NodesV.snoc {w : World} {P : Nat → Prop} {vs : List Value} {l : List Nr} {v : Value} {x : Nr} (h : NodesV w P vs l) (hl : vs.length = l.length) (h1 : NodeIs w v x) (h2 : ∀ k, NodeBlk v k → P k) : NodesV w P (vs ++ [v]) (l ++ [x]) := fun i y hy => by
  by_cases hi : i < l.length
  · rw [List.getElem?_append_left hi] at hy
    obtain ⟨u, h3, h4⟩ := h i y hy
    exact ⟨u, by rw [List.getElem?_append_left (by omega)]; exact h3, h4⟩
  · have hil := (List.getElem?_eq_some_iff.1 hy).1
    simp only [List.length_append, List.length_singleton] at hil
    have : i = l.length := by omega
    subst this
    rw [List.getElem?_append_right (Nat.le_refl _), Nat.sub_self] at hy
    obtain rfl : x = y := by simpa using hy
    exact ⟨v, by rw [← hl, List.getElem?_append_right (Nat.le_refl _), Nat.sub_self]; rfl, h1, h2⟩
theorem NodesV.row {w : World} {P : Nat → Prop} {vs : List Value} {l : List Nr} {B n c : Nat} {t : TypeId} {A : Option Addr} (h : NodesV w P vs l) (ho : w.ownsRow B t 1 (.slice A n c) n vs) : NodesA w A l := fun hl => by
  rcases ho.2 with ⟨hv, hn⟩ | ⟨g, cap, cur, hv, _⟩
  · obtain ⟨v, h1, _⟩ := h 0 l[0] (List.getElem?_eq_getElem hl)
    have h2 := ho.1
    have h3 := (List.getElem?_eq_some_iff.1 h1).1
    omega
  · simp only [Value.slice.injEq] at hv
    obtain ⟨rfl, _, rfl⟩ := hv
    refine ⟨g, 0, rfl, (ho.lt g rfl).2, fun i x hx => ?_⟩
    obtain ⟨v, h1, h2, _⟩ := h i x hx
    have h3 := own_cell ho h1
    have hadd : (⟨g, 0, none⟩ : Addr).add i = ⟨g, 0 + i, none⟩ := by unfold Addr.add; split <;> simp_all
    rw [hadd] at h3
    exact ⟨v, h3, h2⟩
theorem nodesE_step {n : Nat} {s : ByteArray} : nodesE (n + 1) s 0 = ((nodeE s 0).1 :: (nodesE n (nodeE s 0).2.1 (nodeE s 0).2.2).1, (nodesE n (nodeE s 0).2.1 (nodeE s 0).2.2).2) := by
  simp only [nodesE, ne_eq, not_true, if_false]
theorem nodesE_len : ∀ (n : Nat) (s : ByteArray) (e : Nat), (nodesE n s e).1.length ≤ n
  | 0, _, _ => by simp [nodesE]
  | n + 1, s, e => by
    simp only [nodesE]
    split
    · simp
    · simp only [List.length_cons]
      have := nodesE_len n (nodeE s e).2.1 (nodeE s e).2.2
      omega
theorem cells_one {v : Value} (h : v.oneCell' = true) : v.cells = #[v] := by
  cases v <;> first | rfl | cases h
theorem own_atN {w w' : World} {B : Nat} {e : TypeId} {z n : Nat} {v : Value} {xs : List Value} (h : w.ownsRow B e z v n xs) (he : ∀ i, v.ownBlock = some i → w'.heap[i]? = w.heap[i]?) : w'.ownsRow B e z v n xs := by
  obtain ⟨q1, q2⟩ := h
  refine ⟨q1, q2.imp id ?_⟩
  rintro ⟨g, cap, cur, r1, r2, r3, r4⟩
  exact ⟨g, cap, cur, r1, r2, (he g (by rw [r1]; rfl)).trans r3, r4⟩
theorem NrFit.bnd {x : Nr} (h : NrFit x) : NrB x := by
  obtain ⟨k1, ha, ⟨m1, m2⟩, ⟨t1, t2⟩, h2, hn2, h3, hn3⟩ := h
  by_cases k2 : x.kind = 2
  · obtain ⟨⟨a1, a2⟩, a3, a4⟩ := h2 k2
    have h4 := hn3 (by omega)
    exact ⟨by omega, by rw [h4]; decide, by omega, fun c hc => by rw [a4 c hc]; decide, ⟨by omega, by omega⟩, ⟨by omega, by omega⟩, ⟨by omega, by omega⟩⟩
  · obtain ⟨a1, a2⟩ := hn2 k2
    refine ⟨by omega, ?_, by rw [a2]; decide, (fun c hc => by rw [a2] at hc; cases hc), by rw [a1]; decide, ⟨by omega, by omega⟩, ⟨by omega, by omega⟩⟩
    by_cases k3 : x.kind = 3
    · have := h3 k3; omega
    · rw [hn3 k3]; decide
set_option maxRecDepth 100000 in
set_option maxHeartbeats 6400000 in
theorem ndecode_any (s : ByteArray) (w : World) (he : Env w) (hs : s.size ≤ 1099511627776) :
    Calls Tryd.prog 19 #[.string s] w (DecNPost s w) := by
  rcases h1 : numE s 0 with ⟨n1, s1, e1⟩
  have z1 := numE_le s 0
  rw [h1] at z1
  simp only at z1
  have C1 := Lib.hid fun W hr => nnum_any w.heap.size s 0 W hr hs
  rw [h1] at C1
  have HR0 := Lib.hid (show RdE (w.alloc (.cells #[.string s, .int .i64 0] 109)) w.heap.size s 0 from Blk.new w 109 #[.string s, .int .i64 0])
  have HB0 := Lib.hid ((Below.refl w.heap.size w).alloc (Nat.le_refl _) (.cells #[.string s, .int .i64 0] 109))
  have HE := Lib.hid fun W (hb : Below w.heap.size w W) => he.below hb
  have H1 := Lib.hid h1
  clear h1 he
  go_enter Tryd.func19, Tryd.ntmps19
  go_wp2_with fail
  refine (C1.out _ HR0.out).mono ?_
  rintro e w1 ⟨rfl, hr1, ho1⟩
  have HR1 := Lib.hid hr1
  have HB1 := Lib.hid (ho1.low HB0.out HB0.out.size (Nat.le_refl _))
  have hz1 : w.heap.size + 1 ≤ w1.heap.size := by rw [ho1.size]; simp
  have c1 : w1.cell? ⟨w.heap.size, 1, none⟩ = some (.int .i64 e1) := Blk.cell hr1 1
  clear hr1 ho1 HR0 HB0 C1
  by_cases hbig : e1 = 0 ∧ 200 < n1
  · have HX := Lib.hid (decN_big H1.out hbig)
    obtain ⟨rfl, hn⟩ := hbig
    have hq : (200 : Int) < (n1 : Int) := by omega
    go_wp2
    go_ret2
    unfold DecNPost
    rw [HX.out]
    exact ⟨none, 0, rfl, fun h => absurd h (by simp), HB1.out⟩
  · rcases h2 : nodesE n1 s1 e1 with ⟨l2, s2, e2⟩
    have HX := Lib.hid (decN_of H1.out hbig h2)
    have H2 := Lib.hid h2
    have hnl := nodesE_len n1 s1 e1
    rw [h2] at hnl
    simp only at hnl
    have hcs : ((e1 : Int) == 0) = false ∨ (((e1 : Int) == 0) = true ∧ ¬ (200 : Int) < (n1 : Int)) := by
      by_cases h0 : e1 = 0
      · exact .inr ⟨by rw [beq_iff_eq]; omega, fun h => hbig ⟨h0, by omega⟩⟩
      · exact .inl (by rw [beq_eq_false_iff_ne]; omega)
    clear h2 hbig H1
    rcases hcs with hq | ⟨hq, hq2⟩
    all_goals
      go_wp2
      go_loopw [5, 6] (fun iv ov wr => ∃ (n : Nat) (acc : List Nr) (vs : List Value) (A : Option Addr) (c : Nat) (s' : ByteArray) (e' : Nat), iv = .int .i64 (n : Nat) ∧ ov = .slice A acc.length c ∧ RdE wr w.heap.size s' e' ∧ wr.ownsRow (w.heap.size + 1) 35 1 (.slice A acc.length c) acc.length vs ∧ (e' = 0 → NodesV wr (fun k => k ≠ w.heap.size ∧ (Value.slice A acc.length c).ownBlock ≠ some k) vs acc) ∧ Below w.heap.size w wr ∧ l2 = acc ++ (nodesE n s' e').1 ∧ (s2, e2) = (nodesE n s' e').2 ∧ acc.length + n ≤ 1099511627776 ∧ s'.size ≤ 1099511627776 ∧ w.heap.size + 1 ≤ wr.heap.size) (fun iv _ _ => (intOf iv).toNat)
      case atStart => exact ⟨n1, [], [], none, 0, s1, e1, rfl, rfl, HR1.out, ⟨rfl, Or.inl ⟨rfl, rfl⟩⟩, (fun _ i x hx => by simp at hx), HB1.out, by rw [H2.out]; rfl, by rw [H2.out], by simp; omega, by omega, hz1⟩
      case round =>
        obtain ⟨n, acc, vs, A, c, s', e', rfl, rfl, hrr, hown, hnv, hbb, hl1, hl2, hln, hs', hzr⟩ := hrel
        have HRR := Lib.hid hrr
        have HNV := Lib.hid hnv
        have HBB := Lib.hid hbb
        have HL := Lib.hid (And.intro hl1 hl2)
        have hvl : vs.length = acc.length := by have := hown.1; omega
        have HOW := Lib.hid hown
        have c1 : wr.cell? ⟨w.heap.size, 1, none⟩ = some (.int .i64 e') := Blk.cell hrr 1
        have c0 : wr.cell? ⟨w.heap.size, 0, none⟩ = some (.string s') := Blk.cell hrr 0
        have HN2 := H2
        clear hrr hnv hbb hl1 hl2 hown H2 HR1 HB1
        by_cases hgo : 0 < n ∧ e' = 0
        · obtain ⟨hn0, rfl⟩ := hgo
          obtain ⟨n, rfl⟩ : ∃ j, n = j + 1 := ⟨n - 1, by omega⟩
          have HN := Lib.hid (nnode_any w.heap.size s' 0 wr HRR.out hs')
          have HST := Lib.hid (nodesE_step (n := n) (s := s'))
          have hsz := nodeE_size s' 0
          have hq5 : (0 : Int) < ((n + 1 : Nat) : Int) := by omega
          unfold NNodePost at HN
          generalize nodeE s' 0 = nd at *
          obtain ⟨x, s3, e3⟩ := nd
          simp only at hsz HST HN
          go_wp2_with fail
          refine HN.out.mono ?_
          rintro r w2 ⟨v, rfl, hr2, hg2, hone, hnew, hnd⟩
          have HR2 := Lib.hid hr2
          have HB2 := Lib.hid (HBB.out.trans (hg2.below (B := w.heap.size) HBB.out.size (fun k hk => by omega)))
          have HO2 := Lib.hid (own_atN HOW.out (w' := w2) fun i hi => hg2.block i (HOW.out.lt i hi).2 (by have := (HOW.out.lt i hi).1; omega))
          have HV2 := Lib.hid ((HNV.out (by trivial)).keep (Q := fun k => k ≠ w.heap.size ∧ (Value.slice A acc.length c).ownBlock ≠ some k) hg2.size fun k hk hl => ⟨hg2.block k hl hk.1, hk⟩)
          have HNW := Lib.hid (show ∀ k, NodeBlk v k → k ≠ w.heap.size ∧ (Value.slice A acc.length c).ownBlock ≠ some k from fun k hk => ⟨by have := hnew k hk; omega, fun e => by have h1 := (HOW.out.lt k e).2; have h2 := hnew k hk; omega⟩)
          have HND := Lib.hid hnd
          have hz2 : w.heap.size + 1 ≤ w2.heap.size := Nat.le_trans hzr hg2.size
          clear hr2 hg2 hnew hnd HN
          rcases hone with rfl | ⟨vt, vu, rfl⟩
          all_goals
            go_wp2_with (at_builtin; refine wpList_app1 rfl _ _ 30 rfl (w.heap.size + 1) 35 Tryd.underlying30 infoNd rfl (by decide) _ _ _ rfl HO2.out _ rfl rfl (by simp [Value.oneCell']) (by omega) (by omega) (by omega) ?_)
            intro g5 cap5 w5 ho5 hg5 hb5 hl5
            have HO5 := Lib.hid (show w5.ownsRow (w.heap.size + 1) 35 1 (.slice (some ⟨g5, 0, none⟩) (acc ++ [x]).length cap5) (acc ++ [x]).length (vs ++ [_]) by
              have := ho5
              simpa using this)
            have HB5 := Lib.hid (HB2.out.grown hg5 HB2.out.size fun j hj => by have := (HO2.out.lt j hj).1; omega)
            have HR5 := Lib.hid (show RdE w5 w.heap.size s3 e3 from Blk.grown HR2.out hg5 (own_neE HO2.out (by omega)))
            have HV5 := Lib.hid (show e3 = 0 → NodesV w5 (fun k => k ≠ w.heap.size ∧ (Value.slice (some ⟨g5, 0, none⟩) (acc ++ [x]).length cap5).ownBlock ≠ some k) (vs ++ [_]) (acc ++ [x]) from fun h0 => by
              have h1 := HV2.out.snoc hvl (HND.out h0) HNW.out
              refine h1.keep hg5.size fun k hk hl => ⟨hg5.block k hl (fun e => hk.2 e.symm), hk.1, fun e => ?_⟩
              simp only [Value.ownBlock, Option.some.injEq] at e
              subst e
              rcases hl5 with h | h
              · exact hk.2 h
              · omega)
            have hz5 : w.heap.size + 1 ≤ w5.heap.size := Nat.le_trans hz2 hg5.size
            clear ho5 hg5 hb5 hl5
            go_wp2
            go_roundw
            case rel =>
              refine ⟨n, acc ++ [x], vs ++ [_], some ⟨g5, 0, none⟩, cap5, s3, e3, by go_num, by simp, HR5.out, HO5.out, HV5.out, HB5.out, ?_, ?_, by simp; omega, by omega, hz5⟩
              · rw [List.append_assoc, List.singleton_append]
                have := HL.out.1
                rw [HST.out] at this
                exact this
              · have := HL.out.2
                rw [HST.out] at this
                exact this
            case measure => simp [intOf]
        · have hend : nodesE n s' e' = ([], s', e') := by
            cases n with
            | zero => rfl
            | succ n => exact nodesE_bad (fun e => hgo ⟨by omega, e⟩) s' _
          have hfin := HL.out
          rw [hend] at hfin
          simp only [List.append_nil, Prod.mk.injEq] at hfin
          obtain ⟨rfl, rfl, rfl⟩ := hfin
          have hcs : ¬ (0 : Int) < (n : Int) ∨ ((0 : Int) < (n : Int) ∧ ((e2 : Int) == 0) = false) := by
            by_cases h0 : 0 < n
            · exact .inr ⟨by omega, by rw [beq_eq_false_iff_ne]; intro e; exact hgo ⟨h0, by omega⟩⟩
            · exact .inl (by omega)
          clear hend HL hgo
          by_cases he2 : e2 = 0
          · subst he2
            have hq5 : ¬ (0 : Int) < (n : Int) := hcs.resolve_right fun h => by have := h.2; simp at this
            clear hcs
            have hem := toList_isEmpty s2
            have HBK := Lib.hid (nodesE_back n1 HN2.out (by omega)).2.2.2
            by_cases hz : s2.size = 0
            · rw [decide_eq_true hz] at hem
              have HCK := Lib.hid (ncheck_any l2 A c wr (HE.out _ HBB.out) ((HNV.out (by trivial)).row HOW.out) (fun x hx => (HBK.out x hx).bnd) (by omega))
              by_cases hc : chkN l2 = 0
              · have HD := Lib.hid (show decN s = (l2, 0) by rw [HX.out]; unfold endN; rw [if_neg (by decide), if_neg (by omega), if_neg (by omega)])
                rw [hc] at HCK
                clear hc hz
                go_wp2_with fail
                refine HCK.out.mono ?_
                rintro r w3 ⟨rfl, hb3⟩
                go_wp2
                go_ret2
                unfold DecNPost
                rw [HD.out]
                exact ⟨A, c, rfl, ((HNV.out (by trivial)).row HOW.out).below hb3, HBB.out.trans (hb3.mono HBB.out.size)⟩
              · have HD := Lib.hid (show decN s = ([], chkN l2) by rw [HX.out]; unfold endN; rw [if_neg (by decide), if_neg (by omega), if_pos hc])
                have hne : (((chkN l2 : Nat) : Int) != 0) = true := by rw [bne_iff_ne]; omega
                clear hc hz
                go_wp2_with fail
                refine HCK.out.mono ?_
                rintro r w3 ⟨rfl, hb3⟩
                go_wp2
                go_ret2
                unfold DecNPost
                rw [HD.out]
                exact ⟨none, 0, rfl, fun h => absurd h (by simp), HBB.out.trans (hb3.mono HBB.out.size)⟩
            · rw [decide_eq_false hz] at hem
              have HD := Lib.hid (show decN s = ([], 3) by rw [HX.out]; unfold endN; rw [if_neg (by decide), if_pos hz])
              clear hz
              go_wp2
              go_ret2
              unfold DecNPost
              rw [HD.out]
              exact ⟨none, 0, rfl, fun h => absurd h (by simp), HBB.out⟩
          · have HD := Lib.hid (show decN s = ([], e2) by rw [HX.out]; unfold endN; rw [if_pos he2])
            have hne : ((e2 : Int) != 0) = true := by rw [bne_iff_ne]; omega
            clear he2
            rcases hcs with hq5 | ⟨hq5, hq6⟩
            all_goals
              go_wp2
              go_quiet (fail)
              go_wp2
              go_ret2
              unfold DecNPost
              rw [HD.out]
              exact ⟨none, 0, rfl, fun h => absurd h (by simp), Go.below_drewN HBB.out nq⟩
end Go.Proofs.YtaoejgnfoecpfaaDoor
namespace Go.Proofs.YtaoejgnfoecpfaaDoor
set_option linter.unusedVariables false
set_option linter.unusedSimpArgs false
set_option linter.unusedSectionVars false
open Go.RowKit

/-- the document's cursor in its block -/
def RdC (w : World) (g : Nat) (s : ByteArray) (e : Nat) : Prop := Blk w g 117 #[.string s, .int .i64 e]
theorem RdC.same {w : World} {g e e' : Nat} {s s' : ByteArray} (h : RdC w g s e) (h1 : s = s') (h2 : e = e') : RdC w g s' e' := by subst h1 h2; exact h
theorem RdC.setE {w : World} {g e : Nat} {s : ByteArray} (h : RdC w g s e) (c : Nat) : RdC (w.setCell ⟨g, 1, none⟩ (.int .i64 c)) g s c := by
  have := Blk.set_ h 1 (.int .i64 c)
  simpa [RdC] using this
theorem RdC.setS {w : World} {g e : Nat} {s : ByteArray} (h : RdC w g s e) (t : ByteArray) : RdC (w.setCell ⟨g, 0, none⟩ (.string t)) g t e := by
  have := Blk.set_ h 0 (.string t)
  simpa [RdC] using this
theorem GoR.set {g i : Nat} {w w' : World} (h : GoR g w w') (u : Value) : GoR g w (w'.setCell ⟨g, i, none⟩ u) := h.next (Touch.setc w' g i u)
set_option maxRecDepth 100000 in
set_option maxHeartbeats 800000 in
theorem cnum_any (g : Nat) (s : ByteArray) (e : Nat) (w : World) (hr : RdC w g s e) (hs : s.size ≤ 1099511627776) :
    Calls Tryd.prog 73 #[.pointer (some ⟨g, 0, none⟩)] w fun r w' => r = .returned (.int .i64 (numE s e).1) ∧ RdC w' g (numE s e).2.1 (numE s e).2.2 ∧ GoR g w w' := by
  have h0 : w.cell? ⟨g, 0, none⟩ = some (.string s) := hr.cell 0
  have h1 : w.cell? ⟨g, 1, none⟩ = some (.int .i64 e) := hr.cell 1
  have HR := Lib.hid hr
  by_cases he : e = 0
  · subst he
    have HU := Lib.hid fun W => refunvar_any s W hs
    obtain ⟨l1, l2, l3⟩ := unvar_le s.data.toList
    rw [ba_len] at l1
    by_cases h : (unvarL s.data.toList).2 = 0 ∨ 1099511627776 < (unvarL s.data.toList).1
    · have HN := Lib.hid (show numE s 0 = (0, s, 3) by unfold numE; rw [if_neg (by decide), if_pos h])
      generalize (unvarL s.data.toList).1 = x at *
      generalize (unvarL s.data.toList).2 = n at *
      clear hr l3
      have hq : ((n : Int) == 0) = true ∨ (((n : Int) == 0) = false ∧ (1099511627776 : Int) < (x : Int)) := by
        by_cases h0 : n = 0
        · exact .inl (by simp; omega)
        · exact .inr ⟨by simp; omega, by omega⟩
      clear h
      rcases hq with hq | ⟨hq, hq2⟩
      all_goals
        go_enter Tryd.func73, Tryd.ntmps73
        go_wp2_with fail
        refine (HU.out w).mono ?_
        rintro e w1 ⟨rfl, hb1⟩
        have hr1 : RdC w1 g s 0 := Blk.below HR.out hb1 (Blk.lt HR.out)
        have HG1 := Lib.hid (show GoR g w w1 from Touch.of_below _ hb1)
        have HR1 := Lib.hid hr1
        have c1 : w1.cell? ⟨g, 1, none⟩ = some (.int .i64 (0 : Nat)) := hr1.cell 1
        have f1 : w1.frozen? ⟨g, 1, none⟩ = false := hr1.frozen 1
        clear hr1 hb1
        go_wp2
        go_ret
        exact ⟨ret_int (by rw [HN.out]; rfl), (HR1.out.setE 3).same (by rw [HN.out]) (by rw [HN.out]), HG1.out.set _⟩
    · have HN := Lib.hid (show numE s 0 = ((unvarL s.data.toList).1, s.extract (unvarL s.data.toList).2 s.size, 0) by unfold numE; rw [if_neg (by decide), if_neg h])
      generalize (unvarL s.data.toList).1 = x at *
      generalize (unvarL s.data.toList).2 = n at *
      clear hr l3
      have hq : ((n : Int) == 0) = false := by simp; omega
      have hq2 : decide ((1099511627776 : Int) < (x : Int)) = false := decide_eq_false (by omega)
      have hx : (x : Int) ≤ 1099511627776 := by omega
      have hn1 : (n : Int) ≤ (s.size : Int) := by omega
      clear h
      go_enter Tryd.func73, Tryd.ntmps73
      go_wp2_with fail
      refine (HU.out w).mono ?_
      rintro e w1 ⟨rfl, hb1⟩
      have hr1 : RdC w1 g s 0 := Blk.below HR.out hb1 (Blk.lt HR.out)
      have HG1 := Lib.hid (show GoR g w w1 from Touch.of_below _ hb1)
      have HR1 := Lib.hid hr1
      have c0 : w1.cell? ⟨g, 0, none⟩ = some (.string s) := hr1.cell 0
      have f0 : w1.frozen? ⟨g, 0, none⟩ = false := hr1.frozen 0
      clear hr1 hb1
      go_wp2
      go_ret
      exact ⟨ret_int (by rw [HN.out]), (HR1.out.setS _).same (by rw [HN.out]) (by rw [HN.out]), HG1.out.set _⟩
  · have hq : ((e : Int) != 0) = true := by rw [bne_iff_ne]; omega
    have HN := Lib.hid (numE_bad he s)
    clear he hr
    go_enter Tryd.func73, Tryd.ntmps73
    go_wp2
    go_ret
    exact ⟨ret_int (by rw [HN.out]; rfl), HR.out.same (by rw [HN.out]) (by rw [HN.out]), Touch.refl _ _⟩
set_option maxRecDepth 100000 in
set_option maxHeartbeats 800000 in
theorem ctake_any (g : Nat) (s : ByteArray) (e n : Nat) (w : World) (hr : RdC w g s e) (_hs : s.size ≤ 1099511627776) (hn : n ≤ 1099511627776) :
    Calls Tryd.prog 74 #[.pointer (some ⟨g, 0, none⟩), .int .i64 n] w fun r w' => r = .returned (.string (takE s e n).1) ∧ RdC w' g (takE s e n).2.1 (takE s e n).2.2 ∧ Only g w w' := by
  have h0 : w.cell? ⟨g, 0, none⟩ = some (.string s) := hr.cell 0
  have h1 : w.cell? ⟨g, 1, none⟩ = some (.int .i64 e) := hr.cell 1
  have f0 : w.frozen? ⟨g, 0, none⟩ = false := hr.frozen 0
  have f1 : w.frozen? ⟨g, 1, none⟩ = false := hr.frozen 1
  have HR := Lib.hid hr
  clear hr
  by_cases he : e = 0
  · subst he
    by_cases hl : s.size < n
    · have hq : (s.size : Int) < (n : Int) := by omega
      have HN := Lib.hid (show takE s 0 n = (noB, s, 6) by unfold takE; rw [if_neg (by decide), if_pos hl])
      clear hl
      go_enter Tryd.func74, Tryd.ntmps74
      go_wp2
      go_ret
      exact ⟨ret_str (by rw [HN.out]; rfl), (HR.out.setE 6).same (by rw [HN.out]) (by rw [HN.out]), Only.set _ _ _ _⟩
    · have hq : ¬ (s.size : Int) < (n : Int) := by omega
      have HN := Lib.hid (show takE s 0 n = (s.extract 0 n, s.extract n s.size, 0) by unfold takE; rw [if_neg (by decide), if_neg hl])
      clear hl
      go_enter Tryd.func74, Tryd.ntmps74
      go_wp2
      go_ret
      exact ⟨ret_str (by rw [HN.out]), (HR.out.setS _).same (by rw [HN.out]) (by rw [HN.out]), Only.set _ _ _ _⟩
  · have hne : ((e : Int) != 0) = true := by rw [bne_iff_ne]; omega
    have hne2 : ((e : Int) == 0) = false := by rw [beq_eq_false_iff_ne]; omega
    have HN := Lib.hid (takE_bad he s n)
    clear he
    go_enter Tryd.func74, Tryd.ntmps74
    go_wp2
    go_ret
    exact ⟨ret_str (by rw [HN.out]; rfl), HR.out.same (by rw [HN.out]) (by rw [HN.out]), Only.refl _ _⟩
set_option maxRecDepth 100000 in
set_option maxHeartbeats 400000 in
theorem rtarget_any (s : ByteArray) (w : World) (hs : s.size ≤ 140737488355328) :
    Calls Tryd.prog 46 #[.string s] w fun e w' => e = .returned (.bool (tgt s)) ∧ w = w' := by
  go_enter Tryd.func46, Tryd.ntmps46
  go_wp2
  go_loop [3] (fun i => ∃ k : Nat, k ≤ s.size ∧ i = .int .i64 k ∧ ((s.data.toList.take k).all fun c => decide (c ≠ 0)) = true) (fun i => s.size - (intOf i).toNat)
  case atStart => exact ⟨0, Nat.zero_le _, rfl, rfl⟩
  case round =>
    obtain ⟨k, hk, rfl, hall⟩ := hrel
    have Hall := Lib.hid hall
    clear hall
    by_cases hlt : k < s.size
    · have Hf := Lib.hid fun (h : decide (s[k] ≠ 0) = false) => tgt_no (ba_all_false (p := fun c => decide (c ≠ 0)) s k hlt h)
      have Hs := Lib.hid (ba_all_snoc (p := fun c => decide (c ≠ 0)) s k hlt Hall.out)
      have HZ0 := Lib.hid (u8_zero s[k])
      have hk0 : (0 : Int) ≤ (k : Int) := by omega
      have hk1 : (k : Int) < (s.size : Int) := by omega
      cases hq : ((s[k].toNat : Int) == 0) with
      | true =>
        have HF := Lib.hid (Hf.out (by rw [HZ0.out, hq]; rfl))
        go_wp2
        go_ret
        exact ⟨ret_bool HF.out.symm, rfl⟩
      | false =>
        have HS := Lib.hid (Hs.out (by rw [HZ0.out, hq]; rfl))
        go_wp2
        go_round
        case rel => exact ⟨k + 1, by omega, by go_num, HS.out⟩
        case measure => simp [intOf]; omega
    · obtain rfl : k = s.size := by omega
      have ha : (s.data.toList.all fun c => decide (c ≠ 0)) = true := by have := Hall.out; rwa [ba_take_all] at this
      have E := Lib.hid (show tgt s = (decide (1 ≤ s.size) && decide (s.size ≤ 200)) by unfold tgt; rw [ha, Bool.and_true])
      by_cases h0 : 1 ≤ s.size
      · have hq : (1 : Int) ≤ (s.size : Int) := by omega
        have E2 := Lib.hid (show tgt s = decide ((s.size : Int) ≤ 200) by rw [E.out, decide_eq_true h0, Bool.true_and, Bool.eq_iff_iff, decide_eq_true_eq, decide_eq_true_eq]; omega)
        clear h0 ha
        go_wp2
        go_ret
        exact ⟨ret_bool E2.out.symm, rfl⟩
      · have hq : ¬ (1 : Int) ≤ (s.size : Int) := by omega
        have E2 := Lib.hid (show tgt s = false by rw [E.out, decide_eq_false h0, Bool.false_and])
        clear h0 ha
        go_wp2
        go_ret
        exact ⟨ret_bool E2.out.symm, rfl⟩
end Go.Proofs.YtaoejgnfoecpfaaDoor
namespace Go.Proofs.YtaoejgnfoecpfaaDoor
set_option linter.unusedVariables false
set_option linter.unusedSimpArgs false
set_option linter.unusedSectionVars false
open Go.RowKit

theorem blk7' {w : World} {g : Nat} {t : TypeId} {c0 c1 c2 c3 c4 c5 c6 : Value} (h : Blk w g t #[c0, c1, c2, c3, c4, c5, c6]) :
    (w.cell? ⟨g, 0, none⟩ = some c0 ∧ w.cell? ⟨g, 1, none⟩ = some c1 ∧ w.cell? ⟨g, 2, none⟩ = some c2 ∧ w.cell? ⟨g, 3, none⟩ = some c3 ∧ w.cell? ⟨g, 4, none⟩ = some c4 ∧ w.cell? ⟨g, 5, none⟩ = some c5 ∧ w.cell? ⟨g, 6, none⟩ = some c6) ∧
    (w.frozen? ⟨g, 0, none⟩ = false ∧ w.frozen? ⟨g, 1, none⟩ = false ∧ w.frozen? ⟨g, 2, none⟩ = false ∧ w.frozen? ⟨g, 3, none⟩ = false ∧ w.frozen? ⟨g, 4, none⟩ = false ∧ w.frozen? ⟨g, 5, none⟩ = false ∧ w.frozen? ⟨g, 6, none⟩ = false) :=
  ⟨⟨h.cell 0, h.cell 1, h.cell 2, h.cell 3, h.cell 4, h.cell 5, h.cell 6⟩, ⟨h.frozen 0, h.frozen 1, h.frozen 2, h.frozen 3, h.frozen 4, h.frozen 5, h.frozen 6⟩⟩
/-- a record's cells -/
def recC (x : Nr) (A : Option Addr) (c : Nat) : Array Value := #[.int .i64 x.kind, .string x.at_, .int .i64 x.mode, .int .i64 x.time, .int .i64 x.size, .slice A x.chunks.length c, .string x.target]
theorem kind_cases (x : Nr) : (kindOk x = false ∧ (x.kind < 1 ∨ (¬ x.kind < 1 ∧ 3 < x.kind))) ∨ (kindOk x = true ∧ ¬ x.kind < 1 ∧ ¬ 3 < x.kind ∧ (x.kind = 1 ∨ x.kind = 2 ∨ x.kind = 3)) := by
  cases h : kindOk x with
  | true =>
    unfold kindOk at h
    simp only [Bool.and_eq_true, decide_eq_true_eq] at h
    exact .inr ⟨rfl, by omega, by omega, by omega⟩
  | false =>
    unfold kindOk at h
    simp only [Bool.and_eq_false_iff, decide_eq_false_iff_not] at h
    exact .inl ⟨rfl, by omega⟩
theorem rfile_cases (x : Nr) : (fileOk x = false ∧ (x.size < 0 ∨ (¬ x.size < 0 ∧ 32768 < x.size) ∨ (¬ x.size < 0 ∧ ¬ 32768 < x.size ∧ x.size < (x.chunks.length : Int)) ∨ (¬ x.size < 0 ∧ ¬ 32768 < x.size ∧ ¬ x.size < (x.chunks.length : Int) ∧ 0 < x.size ∧ ((x.chunks.length : Int) == 0) = true))) ∨
    (¬ x.size < 0 ∧ ¬ 32768 < x.size ∧ ¬ x.size < (x.chunks.length : Int) ∧ (¬ 0 < x.size ∨ (0 < x.size ∧ ((x.chunks.length : Int) == 0) = false)) ∧ fileOk x = x.chunks.all fun c => decide (c.size = 32)) := by
  rcases file_cases x with ⟨h1, h2⟩ | ⟨h1, h2, h3, h4, h5⟩
  · refine .inl ⟨h1, ?_⟩
    rcases h2 with h | h | h | ⟨a, b, c, d, e⟩
    · exact .inl h
    · exact .inr (.inl h)
    · exact .inr (.inr (.inl h))
    · refine .inr (.inr (.inr ⟨a, b, c, ?_, e⟩))
      rw [beq_eq_false_iff_ne] at d
      omega
  · refine .inr ⟨h1, h2, h3, ?_, h5⟩
    by_cases h0 : 0 < x.size
    · refine .inr ⟨h0, ?_⟩
      rw [← h4, beq_eq_false_iff_ne]
      omega
    · exact .inl h0
set_option maxRecDepth 100000 in
set_option maxHeartbeats 6400000 in
theorem rfit_any (x : Nr) (A : Option Addr) (c : Nat) (w : World) (hst : StrsA w w.heap.size A x.chunks) (hat : x.at_.size ≤ 1000000) (htg : x.target.size ≤ 140737488355328) (hch : x.chunks.length ≤ 140737488355328) :
    Calls Tryd.prog 84 #[.agg (recC x A c)] w fun e w' => e = .returned (.int .i64 (fitN x : Nat)) ∧ Below w.heap.size w w' := by
  have HB0 := Lib.hid ((Below.refl w.heap.size w).alloc (Nat.le_refl _) (.cells (recC x A c) 72))
  have HK0 := Lib.hid (Blk.new w 72 (recC x A c))
  have HIS := Lib.hid fun W => refis_any x.at_ W hat
  have HTG := Lib.hid fun W => rtarget_any x.target W htg
  have HST := Lib.hid hst
  have FK := Lib.hid fun (h : kindOk x = false) => (show fitN x = 12 by unfold fitN; rw [if_pos h])
  have FP := Lib.hid fun (h : kindOk x = true) => fit_path h
  have FF := Lib.hid fun (h : kindOk x = true) => fit_form h
  have FO := Lib.hid fun (h : kindOk x = true) => fit_ok h
  have FM := Lib.hid fun h1 => form_mt (x := x) h1
  have F1 := Lib.hid fun h1 h => form_one (x := x) h1 h
  have F2 := Lib.hid fun h1 h => form_two (x := x) h1 h
  have F3 := Lib.hid fun h1 h => form_three (x := x) h1 h
  have MT := Lib.hid (mt_cases x)
  have KC := Lib.hid (kind_cases x)
  have FC := Lib.hid (rfile_cases x)
  clear hst hat htg
  unfold recC at *
  go_enter Tryd.func84, Tryd.ntmps84
  go_upto_region 1 with fail
  rcases KC.out with ⟨hk, hq⟩ | ⟨hk, hq1, hq2, hk3⟩
  · have HX := Lib.hid (FK.out hk)
    clear hk
    rcases hq with q1 | ⟨q1, q2⟩
    all_goals
      go_wp2
      go_ret
      exact ⟨ret_int (by rw [HX.out]; rfl), HB0.out⟩
  · generalize isPath x.at_ = ip at *
    go_wp2_with fail
    refine (HIS.out _).mono ?_
    rintro e w2 ⟨rfl, hb2⟩
    have HK2 := Lib.hid (HK0.out.below hb2 HK0.out.lt)
    have HB2 := Lib.hid (HB0.out.trans (hb2.mono HB0.out.size))
    have HST2 := Lib.hid (HST.out.below (HB0.out.trans (hb2.mono HB0.out.size)))
    clear hb2
    obtain ⟨⟨c0, c1, c2, c3, c4, c5, c6⟩, _⟩ := blk7' HK2.out
    cases ip with
    | false =>
      have HX := Lib.hid (FP.out hk rfl)
      go_wp2
      go_ret
      exact ⟨ret_int (by rw [HX.out]; rfl), HB2.out⟩
    | true =>
      rcases MT.out with ⟨hm, q1, q2, q3, q4⟩ | ⟨hm, hq⟩
      · rcases hk3 with h1 | h1 | h1
        · have HX := Lib.hid (FO.out hk rfl (F1.out hm h1))
          rw [h1] at c0
          clear hm hk h1 hq1 hq2
          go_wp2
          go_ret
          exact ⟨ret_int (by rw [HX.out]; rfl), HB2.out⟩
        · have HF1 := Lib.hid (F2.out hm h1)
          rw [h1] at c0
          have HK := Lib.hid hk
          clear hm h1 hq1 hq2 hk
          rcases FC.out with ⟨hf, hq⟩ | ⟨z1, z2, z3, z4, hf⟩
          · have HX := Lib.hid (FF.out HK.out rfl (HF1.out.trans hf))
            clear hf
            rcases hq with z1 | ⟨z1, z2⟩ | ⟨z1, z2, z3⟩ | ⟨z1, z2, z3, z4, z5⟩
            all_goals
              go_wp2
              go_ret
              exact ⟨ret_int (by rw [HX.out]; rfl), HB2.out⟩
          · have HMF := Lib.hid fun h => FF.out HK.out rfl (HF1.out.trans (hf.trans h))
            have HMO := Lib.hid fun h => FO.out HK.out rfl (HF1.out.trans (hf.trans h))
            clear hf
            rcases z4 with z4 | ⟨z4, z5⟩
            all_goals
              go_wp2
              go_loop [4, 79] (fun _ i => ∃ k : Nat, k ≤ x.chunks.length ∧ i = .int .i64 k ∧ ((x.chunks.take k).all fun c => decide (c.size = 32)) = true) (fun _ i => x.chunks.length - (intOf i).toNat)
              case atStart => exact ⟨0, Nat.zero_le _, rfl, rfl⟩
              case round =>
                obtain ⟨k, hk, rfl, hall⟩ := hrel
                have Hall := Lib.hid hall
                clear hall
                by_cases hlt : k < x.chunks.length
                · obtain ⟨bk, ok, rfl, hbk, hcc⟩ := HST2.out (by omega)
                  have hck := hcc k x.chunks[k] (List.getElem?_eq_getElem hlt)
                  have Hf := Lib.hid fun (h : decide (x.chunks[k].size = 32) = false) => HMF.out (all_no hlt h)
                  have Hs := Lib.hid fun (h : decide (x.chunks[k].size = 32) = true) => all_snoc (p := fun c => decide (c.size = 32)) hlt Hall.out h
                  clear hcc
                  generalize x.chunks[k] = ch at *
                  by_cases h32 : ch.size = 32
                  · have hne : ((ch.size : Int) != 32) = false := by rw [h32]; rfl
                    go_wp2
                    go_round
                    case rel => exact ⟨k + 1, by omega, by go_num, Hs.out (decide_eq_true h32)⟩
                    case measure => simp [intOf]; omega
                  · have hne : ((ch.size : Int) != 32) = true := by rw [bne_iff_ne]; omega
                    have HM := Lib.hid (Hf.out (decide_eq_false h32))
                    go_wp2
                    go_ret
                    exact ⟨ret_int (by rw [HM.out]; rfl), HB2.out⟩
                · obtain rfl : k = x.chunks.length := by omega
                  have HM := Lib.hid (HMO.out (by have := Hall.out; rwa [List.take_length] at this))
                  go_wp2
                  go_ret
                  exact ⟨ret_int (by rw [HM.out]; rfl), HB2.out⟩
        · have HF1 := Lib.hid (F3.out hm h1)
          rw [h1] at c0
          have HK := Lib.hid hk
          clear hm h1 hq1 hq2 hk
          generalize tgt x.target = tg at *
          go_wp2_with fail
          refine (HTG.out _).mono ?_
          rintro e w4 ⟨rfl, rfl⟩
          cases tg with
          | false =>
            have HX := Lib.hid (FF.out HK.out (by trivial) HF1.out)
            go_wp2
            go_ret
            exact ⟨ret_int (by rw [HX.out]; rfl), HB2.out⟩
          | true =>
            have HX := Lib.hid (FO.out HK.out (by trivial) HF1.out)
            go_wp2
            go_ret
            exact ⟨ret_int (by rw [HX.out]; rfl), HB2.out⟩
      · have HM := Lib.hid (FF.out hk rfl (FM.out hm))
        clear hm hk
        rcases hq with q1 | ⟨q1, q2⟩ | ⟨q1, q2, q3⟩ | ⟨q1, q2, q3, q4⟩
        all_goals
          go_wp2
          go_ret
          exact ⟨ret_int (by rw [HM.out]; rfl), HB2.out⟩
end Go.Proofs.YtaoejgnfoecpfaaDoor
