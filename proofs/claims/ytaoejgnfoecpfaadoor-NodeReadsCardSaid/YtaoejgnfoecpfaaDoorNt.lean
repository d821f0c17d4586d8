/- A tree's nodes: the records of nodes. -/
import Derived.Test.YtaoejgnfoecpfaaDoorNl
import Derived.Test.YtaoejgnfoecpfaaDoorNm
import Derived.Deep.RegionHeld3
namespace Go.Proofs.YtaoejgnfoecpfaaDoor
open Go.RowKit

theorem own_formT {w : World} {B n k : Nat} {t : TypeId} {v : Value} {xs : List Value} (h : w.ownsRow B t k v n xs) : ∃ A c, v = .slice A n c ∧ n ≤ c ∧ (A = none → c = 0) := by
  rcases h.2 with ⟨hv, hn⟩ | ⟨g, cap, cur, hv, _, _, hc, _⟩
  · exact ⟨none, 0, by rw [hv, hn], by omega, fun _ => rfl⟩
  · exact ⟨some ⟨g, 0, none⟩, cap, hv, hc, fun h => by cases h⟩
set_option maxRecDepth 100000 in
/-- append of a row of texts, at a step of a region that draws -/
theorem step_appStrs {w : World} {ops : Array Oper} {o : Oper} {a : Act} {K : Act → World → Prop} {Q : Exit → Act → World → Prop} {E : Prop} (hgd : o.guard = none) (s x : Operand)
    (ho : o.op = .call { callee := .builtin .append, args := #[s, x], argTypes := #[50, 50] })
    (base : Nat) (v : Value) (n : Nat) (xs : List Value) (hs : a.eval s = v) (hown : w.ownsRow base 9 1 v n xs)
    (A : Option Addr) (c : Nat) (l : List ByteArray) (hx : a.eval x = .slice A l.length c) (hst : StrsA w w.heap.size A l) (hn : A = none → c = 0)
    (hbytes : (n + l.length) * 16 ≤ 140737488355328) (hbase : base ≤ w.heap.size)
    (h : ∀ A' c' w', w'.ownsRow base 9 1 (.slice A' (n + l.length) c') (n + l.length) (xs ++ strsV l) → w.grownBy w' v.ownBlock → (A' = none → c' = 0) → K (a.put o.dst (.slice A' (n + l.length) c')) w') :
    if Region.wanted o (yielded ops a.tmps) = true then Oper.wp Tryd.prog o a w K Q else E := by
  have hw : Region.wanted o (yielded ops a.tmps) = true := by simp [Region.wanted, hgd]
  rw [if_pos hw]
  obtain ⟨i0, hi, hz0, hz1, hz2⟩ := info_parts infoS
  cases A with
  | none =>
    obtain rfl := hn rfl
    have hl : l = [] := by
      cases l with
      | nil => rfl
      | cons y r =>
        obtain ⟨b, o, e, _⟩ := hst (by simp)
        cases e
    subst hl
    obtain ⟨A', c', rfl, hc, hnn⟩ := own_formT hown
    have hrun := run_append_owned_none (P := Tryd.prog) (w := w) base 50 o.type 9 i0 1 Tryd.underlying50 hi _ n xs hown
    have hK := h A' c' w (by simpa [strsV] using hown) ⟨rfl, rfl, rfl, Nat.le_refl _, fun _ _ _ => rfl⟩ hnn
    unfold Oper.wp
    simp only [List.length_nil, Nat.add_zero] at hK
    simp [execOp, ho, resolve, invoke, builtin, hs, hx, hrun, Result.andThen]
    exact hK
  | some ad =>
    obtain ⟨v', w', hr, hown', hg, _⟩ := run_append_own_at (P := Tryd.prog) (w := w) base 50 o.type 9 i0 _ 1 16 Tryd.underlying50 hi hz0 hz1 hz2 rfl (by decide) v n xs hown ad l.length c (strsV l) (by simp [strsV]) (by
      intro j u hj
      have hjl : j < l.length := by
        have := (List.getElem?_eq_some_iff.1 hj).1
        simpa [strsV] using this
      obtain ⟨b, o, h1, h2, h3⟩ := hst (by omega)
      injection h1 with h1
      subst h1
      have hadd : (⟨b, o, none⟩ : Addr).add j = ⟨b, o + j, none⟩ := by unfold Addr.add; split <;> simp_all
      rw [hadd]
      simp only [strsV, List.getElem?_map, List.getElem?_eq_getElem hjl, Option.map_some, Option.some.injEq] at hj
      subst hj
      exact h3 j l[j] (List.getElem?_eq_getElem hjl)) (by
      intro u hu
      simp only [strsV, List.mem_map] at hu
      obtain ⟨x, _, rfl⟩ := hu
      rfl) (by unfold maxLen; omega) hbytes hbase
    obtain ⟨A', c', rfl, hc, hnn⟩ := own_formT hown'
    have hK := h A' c' w' hown' hg hnn
    unfold Oper.wp execOp
    simp only [ho, resolve, invoke, builtin, Sem.run_bind, Sem.run_pure, Result.andThen_ok, List.map_toArray, List.map_cons, List.map_nil, hs, hx, hr]
    exact hK
theorem Blk.new2 (w : World) (o : Obj) (t : TypeId) (cs : Array Value) : Blk ((w.alloc o).alloc (.cells cs t)) (w.heap.size + 1) t cs := by
  have := Blk.new (w.alloc o) t cs
  rwa [show (w.alloc o).heap.size = w.heap.size + 1 by simp] at this
theorem own_empty {w : World} {B : Nat} {t : TypeId} (h : B ≤ w.heap.size) : (w.alloc (.cells #[] t)).ownsRow B t 1 (.slice (some ⟨w.heap.size, 0, none⟩) 0 0) 0 [] :=
  ⟨rfl, .inr ⟨w.heap.size, 0, #[], rfl, h, heap_alloc_new w _, Nat.le_refl _, Nat.zero_le _, rfl, rfl⟩⟩
/-- the record that is told of a node -/
def tell (x : Nr) : Nr := if x.kind = 1 then ⟨1, x.at_, x.mode, x.time, 0, [], noB⟩ else if x.kind = 2 then ⟨2, x.at_, x.mode, x.time, x.size, x.chunks, noB⟩ else if x.kind = 3 then ⟨3, x.at_, x.mode, x.time, 0, [], x.target⟩ else ⟨0, noB, 0, 0, 0, [], noB⟩
theorem tell_pure {x : Nr} (h : kindOk x = true) (hp : PureN x) : tell x = x := by
  obtain ⟨kind, a, m, t, z, ch, tg⟩ := x
  unfold kindOk at h
  obtain ⟨h1, h2⟩ := hp
  simp only [Bool.and_eq_true, decide_eq_true_eq] at h h1 h2
  unfold tell
  have : kind = 1 ∨ kind = 2 ∨ kind = 3 := by omega
  rcases this with rfl | rfl | rfl
  · obtain ⟨rfl, rfl⟩ := h1 (by decide)
    rw [h2 (by decide)]
    rfl
  · rw [h2 (by decide)]
    rfl
  · obtain ⟨rfl, rfl⟩ := h1 (by decide)
    rfl
theorem far7 {W : World} {b g : Nat} {t : TypeId} {cs : Array Value} (h : Blk W b t cs) (hb : b ≠ g) (v0 v1 v2 v3 v4 v5 v6 : Value) : Blk (((((((W.setCell ⟨g, 0, none⟩ v0).setCell ⟨g, 1, none⟩ v1).setCell ⟨g, 2, none⟩ v2).setCell ⟨g, 3, none⟩ v3).setCell ⟨g, 4, none⟩ v4).setCell ⟨g, 5, none⟩ v5).setCell ⟨g, 6, none⟩ v6) b t cs := ((((((h.far hb v0).far hb v1).far hb v2).far hb v3).far hb v4).far hb v5).far hb v6
theorem heap7 {W : World} {b g : Nat} (hb : b ≠ g) (v0 v1 v2 v3 v4 v5 v6 : Value) : (((((((W.setCell ⟨g, 0, none⟩ v0).setCell ⟨g, 1, none⟩ v1).setCell ⟨g, 2, none⟩ v2).setCell ⟨g, 3, none⟩ v3).setCell ⟨g, 4, none⟩ v4).setCell ⟨g, 5, none⟩ v5).setCell ⟨g, 6, none⟩ v6).heap[b]? = W.heap[b]? := by
  rw [Below.heap_setCell _ ⟨g, 6, none⟩ _ b hb, Below.heap_setCell _ ⟨g, 5, none⟩ _ b hb, Below.heap_setCell _ ⟨g, 4, none⟩ _ b hb, Below.heap_setCell _ ⟨g, 3, none⟩ _ b hb, Below.heap_setCell _ ⟨g, 2, none⟩ _ b hb, Below.heap_setCell _ ⟨g, 1, none⟩ _ b hb, Below.heap_setCell _ ⟨g, 0, none⟩ _ b hb]
theorem below_set7 {B g : Nat} {w0 w : World} (h : Below B w0 w) (hg : B ≤ g) (v0 v1 v2 v3 v4 v5 v6 : Value) : Below B w0 (((((((w.setCell ⟨g, 0, none⟩ v0).setCell ⟨g, 1, none⟩ v1).setCell ⟨g, 2, none⟩ v2).setCell ⟨g, 3, none⟩ v3).setCell ⟨g, 4, none⟩ v4).setCell ⟨g, 5, none⟩ v5).setCell ⟨g, 6, none⟩ v6) :=
  ((((((h.setCell (p := ⟨g, 0, none⟩) hg v0).setCell (p := ⟨g, 1, none⟩) hg v1).setCell (p := ⟨g, 2, none⟩) hg v2).setCell (p := ⟨g, 3, none⟩) hg v3).setCell (p := ⟨g, 4, none⟩) hg v4).setCell (p := ⟨g, 5, none⟩) hg v5).setCell (p := ⟨g, 6, none⟩) hg v6
theorem pla5 {W : World} {b : Nat} {a : ByteArray} {m t z : Int} {A : Option Addr} {n c : Nat} (h : Blk W b 75 #[.string a, .int .i64 m, .int .i64 t, .int .i64 z, .slice A n c]) : W.cell? ⟨b, 0, none⟩ = some (.string a) ∧ W.cell? ⟨b, 1, none⟩ = some (.int .i64 m) ∧ W.cell? ⟨b, 2, none⟩ = some (.int .i64 t) ∧ W.cell? ⟨b, 3, none⟩ = some (.int .i64 z) ∧ W.cell? ⟨b, 4, none⟩ = some (.slice A n c) := ⟨h.cell 0, h.cell 1, h.cell 2, h.cell 3, h.cell 4⟩
def ToldPost (x : Nr) (w : World) (e : Ending) (w' : World) : Prop :=
  ∃ A c, e = .returned (.agg (recC (tell x) A c)) ∧ StrsA w' w'.heap.size A (tell x).chunks ∧ (∀ k o, A = some ⟨k, o, none⟩ → w.heap.size ≤ k) ∧ (A = none → c = 0) ∧ Below w.heap.size w w'
set_option maxRecDepth 100000 in
set_option maxHeartbeats 3200000 in
theorem told_any (x : Nr) (v : Value) (w : World) (h : NodeIs w v x) (hc : x.chunks.length ≤ 1000000) : Calls Tryd.prog 44 #[v] w (ToldPost x w) := by
  have t0 := taFF
  have t1 := taPP
  have t2 := taSS
  have t3 := taPF
  have t4 := taSF
  have t5 := taQF
  have t6 := taNF
  have t7 := taFP
  have t8 := taSP
  have t9 := taQP
  have t10 := taNP
  have t11 := taFS
  have t12 := taPS
  have t13 := taQS
  have t14 := taNS
  rcases h with ⟨h, rfl⟩ | ⟨h, A, c, rfl, hs, hn⟩ | ⟨h, rfl⟩ | ⟨h, rfl | ⟨g, rfl⟩⟩
  · have hk : tell x = ⟨1, x.at_, x.mode, x.time, 0, [], noB⟩ := by unfold tell; rw [if_pos h]
    unfold folV ToldPost
    rw [hk]
    clear h hk
    go_enter Tryd.func44, Tryd.ntmps44
    go_wp2
    refine bodyPost_ret (v := .agg #[.int .i64 1, .string x.at_, .int .i64 x.mode, .int .i64 x.time, .int .i64 0, .slice none 0 0, .string ⟨#[]⟩]) (by simp [results, Tryd.results44, go_sem]) rfl ?_
    exact ⟨none, 0, rfl, fun h => absurd h (by simp), (fun k o e => by cases e), fun _ => rfl, ((Below.refl _ w).alloc (Nat.le_refl _) _).alloc (by simp) _⟩
  · have hk : tell x = ⟨2, x.at_, x.mode, x.time, x.size, x.chunks, noB⟩ := by unfold tell; rw [if_neg (by omega), if_pos h]
    unfold plaV ToldPost
    rw [hk]
    clear h hk
    go_enter Tryd.func44, Tryd.ntmps44
    have hh := ((Below.refl w.heap.size w).alloc (Nat.le_refl _) (.cells #[.int .i64 0, .string ⟨#[]⟩, .int .i64 0, .int .i64 0, .int .i64 0, .slice none 0 0, .string ⟨#[]⟩] 72)).alloc (by simp) (.cells #[.string x.at_, .int .i64 x.mode, .int .i64 x.time, .int .i64 x.size, .slice A x.chunks.length c] 75)
    have HK1 := Lib.hid (Blk.new2 w (.cells #[.int .i64 0, .string ⟨#[]⟩, .int .i64 0, .int .i64 0, .int .i64 0, .slice none 0 0, .string ⟨#[]⟩] 72) 75 #[.string x.at_, .int .i64 x.mode, .int .i64 x.time, .int .i64 x.size, .slice A x.chunks.length c])
    have HK0 := Lib.hid ((Blk.new w 72 #[.int .i64 0, .string ⟨#[]⟩, .int .i64 0, .int .i64 0, .int .i64 0, .slice none 0 0, .string ⟨#[]⟩]).alloc (.cells #[.string x.at_, .int .i64 x.mode, .int .i64 x.time, .int .i64 x.size, .slice A x.chunks.length c] 75))
    have HS := Lib.hid (hs.below hh)
    have HH := Lib.hid hh
    clear hs hh
    go_wp2
    generalize (w.alloc (.cells #[.int .i64 0, .string ⟨#[]⟩, .int .i64 0, .int .i64 0, .int .i64 0, .slice none 0 0, .string ⟨#[]⟩] 72)).alloc (.cells #[.string x.at_, .int .i64 x.mode, .int .i64 x.time, .int .i64 x.size, .slice A x.chunks.length c] 75) = wp at *
    have HZ := Lib.hid (show w.heap.size + 1 < wp.heap.size from HK1.out.lt)
    go_region_held3 (fun W => W.cell? ⟨w.heap.size + 1, 0, none⟩ = some (.string x.at_) ∧ W.cell? ⟨w.heap.size + 1, 1, none⟩ = some (.int .i64 x.mode) ∧ W.cell? ⟨w.heap.size + 1, 2, none⟩ = some (.int .i64 x.time) ∧ W.cell? ⟨w.heap.size + 1, 3, none⟩ = some (.int .i64 x.size) ∧ W.cell? ⟨w.heap.size + 1, 4, none⟩ = some (.slice A x.chunks.length c))
      (first | with_reducible exact hk5s | with_reducible exact pla5 HK1.out | with_reducible exact pla5 (Blk.drew HK1.out) | with_reducible exact pla5 (Blk.alloc HK1.out _) | with_reducible exact pla5 (Blk.alloc (Blk.drew HK1.out) _) | with_reducible exact pla5 (Blk.drew (Blk.alloc HK1.out _)) | exact pla5 (far7 hk5 (by omega) _ _ _ _ _ _ _))
      (first
        | (refine step_appStrs (by rfl) _ _ (by rfl) (w.heap.size + 1) _ 0 [] (by rfl) ((own_empty (by have := HZ.out; omega)).drew) A c x.chunks (by rfl) (HS.out.below (((Below.refl wp.heap.size wp).alloc (Nat.le_refl _) _).drew)) hn (by omega) (by have := HZ.out; simp; omega) ?_; intro A' c' w5 hown5 hg5 hn5; have hk5 := (Blk.drew (Blk.alloc HK1.out (.cells #[] 9))).grown hg5 (by have := HZ.out; simp [Value.ownBlock]; omega); have hk5s := pla5 hk5; have hz5 := (Blk.drew (Blk.alloc HK0.out (.cells #[] 9))).grown hg5 (by have := HZ.out; simp [Value.ownBlock]; omega); have hl5 : w.heap.size < w5.heap.size := hz5.lt; obtain ⟨⟨p0, p1, p2, p3, p4, p5, p6⟩, ⟨q0, q1, q2, q3, q4, q5, q6⟩⟩ := blk7' hz5))
    rw [Nat.zero_add, List.nil_append] at hown5
    have hst5 := (own_strs hown5).1
    have hlt5 := hown5.lt
    have hb5 := below_set7 (((HH.out.alloc HH.out.size (.cells #[] 9)).drew).grown hg5 (by have := HH.out.size; simp; omega) (fun k hk => by have := HZ.out; simp only [Value.ownBlock, Option.some.injEq] at hk; omega)) (Nat.le_refl w.heap.size)
    have hst6 := fun v0 v1 v2 v3 v4 v5 v6 => StrsA.keep (w' := (((((((w5.setCell ⟨w.heap.size, 0, none⟩ v0).setCell ⟨w.heap.size, 1, none⟩ v1).setCell ⟨w.heap.size, 2, none⟩ v2).setCell ⟨w.heap.size, 3, none⟩ v3).setCell ⟨w.heap.size, 4, none⟩ v4).setCell ⟨w.heap.size, 5, none⟩ v5).setCell ⟨w.heap.size, 6, none⟩ v6)) hst5 (by simp) (fun _ g o e _ => heap7 (by subst e; have := (hlt5 g rfl).1; omega) v0 v1 v2 v3 v4 v5 v6)
    go_wp2
    refine bodyPost_ret (v := .agg #[.int .i64 2, .string x.at_, .int .i64 x.mode, .int .i64 x.time, .int .i64 x.size, .slice A' x.chunks.length c', .string ⟨#[]⟩]) (by simp [results, Tryd.results44, go_sem, p0, p1, p2, p3, p4, p5, p6]) rfl ?_
    exact ⟨A', c', rfl, hst6 _ _ _ _ _ _ _, (fun k o e => by subst e; have := (hlt5 k rfl).1; omega), hn5, hb5 _ _ _ _ _ _ _⟩
  · have hk : tell x = ⟨3, x.at_, x.mode, x.time, 0, [], x.target⟩ := by unfold tell; rw [if_neg (by omega), if_neg (by omega), if_pos h]
    unfold symV ToldPost
    rw [hk]
    clear h hk
    go_enter Tryd.func44, Tryd.ntmps44
    go_wp2
    refine bodyPost_ret (v := .agg #[.int .i64 3, .string x.at_, .int .i64 x.mode, .int .i64 x.time, .int .i64 0, .slice none 0 0, .string x.target]) (by simp [results, Tryd.results44, go_sem]) rfl ?_
    exact ⟨none, 0, rfl, fun h => absurd h (by simp), (fun k o e => by cases e), fun _ => rfl, ((Below.refl _ w).alloc (Nat.le_refl _) _).alloc (by simp) _⟩
  all_goals
    have hk : tell x = ⟨0, noB, 0, 0, 0, [], noB⟩ := by
      unfold kindOk at h
      simp only [Bool.and_eq_false_iff, decide_eq_false_iff_not] at h
      unfold tell
      rw [if_neg (by omega), if_neg (by omega), if_neg (by omega)]
    unfold ToldPost
    rw [hk]
    clear h hk
    go_enter Tryd.func44, Tryd.ntmps44
    go_wp2
    refine bodyPost_ret (v := .agg #[.int .i64 0, .string ⟨#[]⟩, .int .i64 0, .int .i64 0, .int .i64 0, .slice none 0 0, .string ⟨#[]⟩]) (by simp [results, Tryd.results44, go_sem]) rfl ?_
    exact ⟨none, 0, rfl, fun h => absurd h (by simp), (fun k o e => by cases e), fun _ => rfl, (Below.refl _ w).alloc (Nat.le_refl _) _⟩
end Go.Proofs.YtaoejgnfoecpfaaDoor
