/- A tree's nodes: the records of nodes. Rows of items that came in; the law's Few. Rows of items that came in as arguments. Are two rows of items the same?. What becomes of a tree's paths: the plain law. walk.Walk, walked. What is in a folder: the plain law; walk.Under, walked. -/
import Derived.Test.YtaoejgnfoecpfaaDoorJt18
import Derived.Test.YtaoejgnfoecpfaaDoorJt17
import Derived.Deep.RegionHeld3
import Derived.Test.YtaoejgnfoecpfaaDoorJt13
import Derived.Test.YtaoejgnfoecpfaaDoorJt21
import Derived.Laws.StructEq
import Derived.Test.YtaoejgnfoecpfaaDoorJt20
namespace Go.Proofs.YtaoejgnfoecpfaaDoor
set_option linter.unusedVariables false
set_option linter.unusedSimpArgs false
set_option linter.unusedSectionVars false
open Go.RowKit

theorem own_formT {w : World} {B n k : Nat} {t : TypeId} {v : Value} {xs : List Value} (h : w.ownsRow B t k v n xs) : ∃ A c, v = .slice A n c ∧ n ≤ c ∧ (A = none → c = 0) := by
  rcases h.2 with ⟨hv, hn⟩ | ⟨g, cap, cur, hv, _, _, hc, _⟩
  · exact ⟨none, 0, by rw [hv, hn], by omega, fun _ => rfl⟩
  · exact ⟨some ⟨g, 0, none⟩, cap, hv, hc, fun h => by cases h⟩
set_option maxRecDepth 100000 in
/-- append of a row of texts, at a step of a region that draws -/
theorem step_appStrs {w : World} {ops : Array Oper} {o : Oper} {a : Act} {K : Act → World → Prop} {Q : Exit → Act → World → Prop} {E : Prop} (hgd : o.guard = none) (s x : Operand)
    (ho : o.op = .call { callee := .builtin .append, args := #[s, x], argTypes := #[50, 50] })
    (base : Nat) (v : Value) (n : Nat) (xs : List Value) (hs : a.eval s = v) (hown : w.ownsRow base 9 1 v n xs)
    (A : Option Addr) (c : Nat) (l : List ByteArray) (hx : a.eval x = .slice A l.length c) (hst : StrsA w w.heap.size A l) (hn : A = none → c = 0)
    (hbytes : (n + l.length) * 16 ≤ 140737488355328) (hbase : base ≤ w.heap.size)
    (h : ∀ A' c' w', w'.ownsRow base 9 1 (.slice A' (n + l.length) c') (n + l.length) (xs ++ strsV l) → w.grownBy w' v.ownBlock → (A' = none → c' = 0) → K (a.put o.dst (.slice A' (n + l.length) c')) w') :
    if Region.wanted o (yielded ops a.tmps) = true then Oper.wp Tryd.prog o a w K Q else E := by
  have hw : Region.wanted o (yielded ops a.tmps) = true := by simp [Region.wanted, hgd]
  rw [if_pos hw]
  obtain ⟨i0, hi, hz0, hz1, hz2⟩ := info_parts infoS
  cases A with
  | none =>
    obtain rfl := hn rfl
    have hl : l = [] := by
      cases l with
      | nil => rfl
      | cons y r =>
        obtain ⟨b, o, e, _⟩ := hst (by simp)
        cases e
    subst hl
    obtain ⟨A', c', rfl, hc, hnn⟩ := own_formT hown
    have hrun := run_append_owned_none (P := Tryd.prog) (w := w) base 50 o.type 9 i0 1 Tryd.underlying50 hi _ n xs hown
    have hK := h A' c' w (by simpa [strsV] using hown) ⟨rfl, rfl, rfl, Nat.le_refl _, fun _ _ _ => rfl⟩ hnn
    unfold Oper.wp
    simp only [List.length_nil, Nat.add_zero] at hK
    simp [execOp, ho, resolve, invoke, builtin, hs, hx, hrun, Result.andThen]
    exact hK
  | some ad =>
    obtain ⟨v', w', hr, hown', hg, _⟩ := run_append_own_at (P := Tryd.prog) (w := w) base 50 o.type 9 i0 _ 1 16 Tryd.underlying50 hi hz0 hz1 hz2 rfl (by decide) v n xs hown ad l.length c (strsV l) (by simp [strsV]) (by
      intro j u hj
      have hjl : j < l.length := by
        have := (List.getElem?_eq_some_iff.1 hj).1
        simpa [strsV] using this
      obtain ⟨b, o, h1, h2, h3⟩ := hst (by omega)
      injection h1 with h1
      subst h1
      have hadd : (⟨b, o, none⟩ : Addr).add j = ⟨b, o + j, none⟩ := by unfold Addr.add; split <;> simp_all
      rw [hadd]
      simp only [strsV, List.getElem?_map, List.getElem?_eq_getElem hjl, Option.map_some, Option.some.injEq] at hj
      subst hj
      exact h3 j l[j] (List.getElem?_eq_getElem hjl)) (by
      intro u hu
      simp only [strsV, List.mem_map] at hu
      obtain ⟨x, _, rfl⟩ := hu
      rfl) (by unfold maxLen; omega) hbytes hbase
    obtain ⟨A', c', rfl, hc, hnn⟩ := own_formT hown'
    have hK := h A' c' w' hown' hg hnn
    unfold Oper.wp execOp
    simp only [ho, resolve, invoke, builtin, Sem.run_bind, Sem.run_pure, Result.andThen_ok, List.map_toArray, List.map_cons, List.map_nil, hs, hx, hr]
    exact hK
theorem Blk.new2 (w : World) (o : Obj) (t : TypeId) (cs : Array Value) : Blk ((w.alloc o).alloc (.cells cs t)) (w.heap.size + 1) t cs := by
  have := Blk.new (w.alloc o) t cs
  rwa [show (w.alloc o).heap.size = w.heap.size + 1 by simp] at this
theorem own_empty {w : World} {B : Nat} {t : TypeId} (h : B ≤ w.heap.size) : (w.alloc (.cells #[] t)).ownsRow B t 1 (.slice (some ⟨w.heap.size, 0, none⟩) 0 0) 0 [] :=
  ⟨rfl, .inr ⟨w.heap.size, 0, #[], rfl, h, heap_alloc_new w _, Nat.le_refl _, Nat.zero_le _, rfl, rfl⟩⟩
/-- the record that is told of a node -/
def tell (x : Nr) : Nr := if x.kind = 1 then ⟨1, x.at_, x.mode, x.time, 0, [], noB⟩ else if x.kind = 2 then ⟨2, x.at_, x.mode, x.time, x.size, x.chunks, noB⟩ else if x.kind = 3 then ⟨3, x.at_, x.mode, x.time, 0, [], x.target⟩ else ⟨0, noB, 0, 0, 0, [], noB⟩
theorem tell_pure {x : Nr} (h : kindOk x = true) (hp : PureN x) : tell x = x := by
  obtain ⟨kind, a, m, t, z, ch, tg⟩ := x
  unfold kindOk at h
  obtain ⟨h1, h2⟩ := hp
  simp only [Bool.and_eq_true, decide_eq_true_eq] at h h1 h2
  unfold tell
  have : kind = 1 ∨ kind = 2 ∨ kind = 3 := by omega
  rcases this with rfl | rfl | rfl
  · obtain ⟨rfl, rfl⟩ := h1 (by decide)
    rw [h2 (by decide)]
    rfl
  · rw [h2 (by decide)]
    rfl
  · obtain ⟨rfl, rfl⟩ := h1 (by decide)
    rfl
theorem far7 {W : World} {b g : Nat} {t : TypeId} {cs : Array Value} (h : Blk W b t cs) (hb : b ≠ g) (v0 v1 v2 v3 v4 v5 v6 : Value) : Blk (((((((W.setCell ⟨g, 0, none⟩ v0).setCell ⟨g, 1, none⟩ v1).setCell ⟨g, 2, none⟩ v2).setCell ⟨g, 3, none⟩ v3).setCell ⟨g, 4, none⟩ v4).setCell ⟨g, 5, none⟩ v5).setCell ⟨g, 6, none⟩ v6) b t cs := ((((((h.far hb v0).far hb v1).far hb v2).far hb v3).far hb v4).far hb v5).far hb v6
theorem heap7 {W : World} {b g : Nat} (hb : b ≠ g) (v0 v1 v2 v3 v4 v5 v6 : Value) : (((((((W.setCell ⟨g, 0, none⟩ v0).setCell ⟨g, 1, none⟩ v1).setCell ⟨g, 2, none⟩ v2).setCell ⟨g, 3, none⟩ v3).setCell ⟨g, 4, none⟩ v4).setCell ⟨g, 5, none⟩ v5).setCell ⟨g, 6, none⟩ v6).heap[b]? = W.heap[b]? := by
  rw [Below.heap_setCell _ ⟨g, 6, none⟩ _ b hb, Below.heap_setCell _ ⟨g, 5, none⟩ _ b hb, Below.heap_setCell _ ⟨g, 4, none⟩ _ b hb, Below.heap_setCell _ ⟨g, 3, none⟩ _ b hb, Below.heap_setCell _ ⟨g, 2, none⟩ _ b hb, Below.heap_setCell _ ⟨g, 1, none⟩ _ b hb, Below.heap_setCell _ ⟨g, 0, none⟩ _ b hb]
theorem below_set7 {B g : Nat} {w0 w : World} (h : Below B w0 w) (hg : B ≤ g) (v0 v1 v2 v3 v4 v5 v6 : Value) : Below B w0 (((((((w.setCell ⟨g, 0, none⟩ v0).setCell ⟨g, 1, none⟩ v1).setCell ⟨g, 2, none⟩ v2).setCell ⟨g, 3, none⟩ v3).setCell ⟨g, 4, none⟩ v4).setCell ⟨g, 5, none⟩ v5).setCell ⟨g, 6, none⟩ v6) :=
  ((((((h.setCell (p := ⟨g, 0, none⟩) hg v0).setCell (p := ⟨g, 1, none⟩) hg v1).setCell (p := ⟨g, 2, none⟩) hg v2).setCell (p := ⟨g, 3, none⟩) hg v3).setCell (p := ⟨g, 4, none⟩) hg v4).setCell (p := ⟨g, 5, none⟩) hg v5).setCell (p := ⟨g, 6, none⟩) hg v6
theorem pla5 {W : World} {b : Nat} {a : ByteArray} {m t z : Int} {A : Option Addr} {n c : Nat} (h : Blk W b 75 #[.string a, .int .i64 m, .int .i64 t, .int .i64 z, .slice A n c]) : W.cell? ⟨b, 0, none⟩ = some (.string a) ∧ W.cell? ⟨b, 1, none⟩ = some (.int .i64 m) ∧ W.cell? ⟨b, 2, none⟩ = some (.int .i64 t) ∧ W.cell? ⟨b, 3, none⟩ = some (.int .i64 z) ∧ W.cell? ⟨b, 4, none⟩ = some (.slice A n c) := ⟨h.cell 0, h.cell 1, h.cell 2, h.cell 3, h.cell 4⟩
def ToldPost (x : Nr) (w : World) (e : Ending) (w' : World) : Prop :=
  ∃ A c, e = .returned (.agg (recC (tell x) A c)) ∧ StrsA w' w'.heap.size A (tell x).chunks ∧ (∀ k o, A = some ⟨k, o, none⟩ → w.heap.size ≤ k) ∧ (A = none → c = 0) ∧ Below w.heap.size w w'
set_option maxRecDepth 100000 in
set_option maxHeartbeats 3200000 in
theorem told_any (x : Nr) (v : Value) (w : World) (h : NodeIs w v x) (hc : x.chunks.length ≤ 1000000) : Calls Tryd.prog 44 #[v] w (ToldPost x w) := by
  have t0 := taFF
  have t1 := taPP
  have t2 := taSS
  have t3 := taPF
  have t4 := taSF
  have t5 := taQF
  have t6 := taNF
  have t7 := taFP
  have t8 := taSP
  have t9 := taQP
  have t10 := taNP
  have t11 := taFS
  have t12 := taPS
  have t13 := taQS
  have t14 := taNS
  rcases h with ⟨h, rfl⟩ | ⟨h, A, c, rfl, hs, hn⟩ | ⟨h, rfl⟩ | ⟨h, rfl | ⟨g, rfl⟩⟩
  · have hk : tell x = ⟨1, x.at_, x.mode, x.time, 0, [], noB⟩ := by unfold tell; rw [if_pos h]
    unfold folV ToldPost
    rw [hk]
    clear h hk
    go_enter Tryd.func44, Tryd.ntmps44
    go_wp2
    refine bodyPost_ret (v := .agg #[.int .i64 1, .string x.at_, .int .i64 x.mode, .int .i64 x.time, .int .i64 0, .slice none 0 0, .string ⟨#[]⟩]) (by simp [results, Tryd.results44, go_sem]) rfl ?_
    exact ⟨none, 0, rfl, fun h => absurd h (by simp), (fun k o e => by cases e), fun _ => rfl, ((Below.refl _ w).alloc (Nat.le_refl _) _).alloc (by simp) _⟩
  · have hk : tell x = ⟨2, x.at_, x.mode, x.time, x.size, x.chunks, noB⟩ := by unfold tell; rw [if_neg (by omega), if_pos h]
    unfold plaV ToldPost
    rw [hk]
    clear h hk
    go_enter Tryd.func44, Tryd.ntmps44
    have hh := ((Below.refl w.heap.size w).alloc (Nat.le_refl _) (.cells #[.int .i64 0, .string ⟨#[]⟩, .int .i64 0, .int .i64 0, .int .i64 0, .slice none 0 0, .string ⟨#[]⟩] 72)).alloc (by simp) (.cells #[.string x.at_, .int .i64 x.mode, .int .i64 x.time, .int .i64 x.size, .slice A x.chunks.length c] 75)
    have HK1 := Lib.hid (Blk.new2 w (.cells #[.int .i64 0, .string ⟨#[]⟩, .int .i64 0, .int .i64 0, .int .i64 0, .slice none 0 0, .string ⟨#[]⟩] 72) 75 #[.string x.at_, .int .i64 x.mode, .int .i64 x.time, .int .i64 x.size, .slice A x.chunks.length c])
    have HK0 := Lib.hid ((Blk.new w 72 #[.int .i64 0, .string ⟨#[]⟩, .int .i64 0, .int .i64 0, .int .i64 0, .slice none 0 0, .string ⟨#[]⟩]).alloc (.cells #[.string x.at_, .int .i64 x.mode, .int .i64 x.time, .int .i64 x.size, .slice A x.chunks.length c] 75))
    have HS := Lib.hid (hs.below hh)
    have HH := Lib.hid hh
    clear hs hh
    go_wp2
    generalize (w.alloc (.cells #[.int .i64 0, .string ⟨#[]⟩, .int .i64 0, .int .i64 0, .int .i64 0, .slice none 0 0, .string ⟨#[]⟩] 72)).alloc (.cells #[.string x.at_, .int .i64 x.mode, .int .i64 x.time, .int .i64 x.size, .slice A x.chunks.length c] 75) = wp at *
    have HZ := Lib.hid (show w.heap.size + 1 < wp.heap.size from HK1.out.lt)
    go_region_held3 (fun W => W.cell? ⟨w.heap.size + 1, 0, none⟩ = some (.string x.at_) ∧ W.cell? ⟨w.heap.size + 1, 1, none⟩ = some (.int .i64 x.mode) ∧ W.cell? ⟨w.heap.size + 1, 2, none⟩ = some (.int .i64 x.time) ∧ W.cell? ⟨w.heap.size + 1, 3, none⟩ = some (.int .i64 x.size) ∧ W.cell? ⟨w.heap.size + 1, 4, none⟩ = some (.slice A x.chunks.length c))
      (first | with_reducible exact hk5s | with_reducible exact pla5 HK1.out | with_reducible exact pla5 (Blk.drew HK1.out) | with_reducible exact pla5 (Blk.alloc HK1.out _) | with_reducible exact pla5 (Blk.alloc (Blk.drew HK1.out) _) | with_reducible exact pla5 (Blk.drew (Blk.alloc HK1.out _)) | exact pla5 (far7 hk5 (by omega) _ _ _ _ _ _ _))
      (first
        | (refine step_appStrs (by rfl) _ _ (by rfl) (w.heap.size + 1) _ 0 [] (by rfl) ((own_empty (by have := HZ.out; omega)).drew) A c x.chunks (by rfl) (HS.out.below (((Below.refl wp.heap.size wp).alloc (Nat.le_refl _) _).drew)) hn (by omega) (by have := HZ.out; simp; omega) ?_; intro A' c' w5 hown5 hg5 hn5; have hk5 := (Blk.drew (Blk.alloc HK1.out (.cells #[] 9))).grown hg5 (by have := HZ.out; simp [Value.ownBlock]; omega); have hk5s := pla5 hk5; have hz5 := (Blk.drew (Blk.alloc HK0.out (.cells #[] 9))).grown hg5 (by have := HZ.out; simp [Value.ownBlock]; omega); have hl5 : w.heap.size < w5.heap.size := hz5.lt; obtain ⟨⟨p0, p1, p2, p3, p4, p5, p6⟩, ⟨q0, q1, q2, q3, q4, q5, q6⟩⟩ := blk7' hz5))
    rw [Nat.zero_add, List.nil_append] at hown5
    have hst5 := (own_strs hown5).1
    have hlt5 := hown5.lt
    have hb5 := below_set7 (((HH.out.alloc HH.out.size (.cells #[] 9)).drew).grown hg5 (by have := HH.out.size; simp; omega) (fun k hk => by have := HZ.out; simp only [Value.ownBlock, Option.some.injEq] at hk; omega)) (Nat.le_refl w.heap.size)
    have hst6 := fun v0 v1 v2 v3 v4 v5 v6 => StrsA.keep (w' := (((((((w5.setCell ⟨w.heap.size, 0, none⟩ v0).setCell ⟨w.heap.size, 1, none⟩ v1).setCell ⟨w.heap.size, 2, none⟩ v2).setCell ⟨w.heap.size, 3, none⟩ v3).setCell ⟨w.heap.size, 4, none⟩ v4).setCell ⟨w.heap.size, 5, none⟩ v5).setCell ⟨w.heap.size, 6, none⟩ v6)) hst5 (by simp) (fun _ g o e _ => heap7 (by subst e; have := (hlt5 g rfl).1; omega) v0 v1 v2 v3 v4 v5 v6)
    go_wp2
    refine bodyPost_ret (v := .agg #[.int .i64 2, .string x.at_, .int .i64 x.mode, .int .i64 x.time, .int .i64 x.size, .slice A' x.chunks.length c', .string ⟨#[]⟩]) (by simp [results, Tryd.results44, go_sem, p0, p1, p2, p3, p4, p5, p6]) rfl ?_
    exact ⟨A', c', rfl, hst6 _ _ _ _ _ _ _, (fun k o e => by subst e; have := (hlt5 k rfl).1; omega), hn5, hb5 _ _ _ _ _ _ _⟩
  · have hk : tell x = ⟨3, x.at_, x.mode, x.time, 0, [], x.target⟩ := by unfold tell; rw [if_neg (by omega), if_neg (by omega), if_pos h]
    unfold symV ToldPost
    rw [hk]
    clear h hk
    go_enter Tryd.func44, Tryd.ntmps44
    go_wp2
    refine bodyPost_ret (v := .agg #[.int .i64 3, .string x.at_, .int .i64 x.mode, .int .i64 x.time, .int .i64 0, .slice none 0 0, .string x.target]) (by simp [results, Tryd.results44, go_sem]) rfl ?_
    exact ⟨none, 0, rfl, fun h => absurd h (by simp), (fun k o e => by cases e), fun _ => rfl, ((Below.refl _ w).alloc (Nat.le_refl _) _).alloc (by simp) _⟩
  all_goals
    have hk : tell x = ⟨0, noB, 0, 0, 0, [], noB⟩ := by
      unfold kindOk at h
      simp only [Bool.and_eq_false_iff, decide_eq_false_iff_not] at h
      unfold tell
      rw [if_neg (by omega), if_neg (by omega), if_neg (by omega)]
    unfold ToldPost
    rw [hk]
    clear h hk
    go_enter Tryd.func44, Tryd.ntmps44
    go_wp2
    refine bodyPost_ret (v := .agg #[.int .i64 0, .string ⟨#[]⟩, .int .i64 0, .int .i64 0, .int .i64 0, .slice none 0 0, .string ⟨#[]⟩]) (by simp [results, Tryd.results44, go_sem]) rfl ?_
    exact ⟨none, 0, rfl, fun h => absurd h (by simp), (fun k o e => by cases e), fun _ => rfl, (Below.refl _ w).alloc (Nat.le_refl _) _⟩
end Go.Proofs.YtaoejgnfoecpfaaDoor
namespace Go.Proofs.YtaoejgnfoecpfaaDoor
set_option linter.unusedVariables false
set_option linter.unusedSimpArgs false
set_option linter.unusedSectionVars false
open Go.RowKit Go.Maps Go.ChangeShapes Go.WideShapes Go.ChangeAt Go.Deep

section
variable {ops : Array Oper} {rest : List Oper} {o : Oper} {a : Act} {Q : Exit → Act → World → Prop} {w : World}
set_option maxRecDepth 100000 in
/-- append(v, l...) of items -/
theorem wpList_appItems (hgd : o.guard = none) (sl x : Operand) (ho : o.op = .call { callee := .builtin .append, args := #[sl, x], argTypes := #[49, 49] })
    (base : Nat) (v : Value) (n : Nat) (xs : List Itm) (hs : a.eval sl = v) (hown : w.ownsRow base 59 5 v n (itmsC xs)) (A : Option Addr) (c : Nat) (l : List Itm) (hx : a.eval x = .slice A l.length c) (hi : ItmA w A l) (hn : A = none → c = 0)
    (hbytes : (n + l.length) * 56 ≤ 140737488355328) (hbase : base ≤ w.heap.size)
    (h : ∀ A' c' w', w'.ownsRow base 59 5 (.slice A' (n + l.length) c') (n + l.length) (itmsC (xs ++ l)) → w.grownBy w' v.ownBlock → (A' = none → c' = 0) → wpList Tryd.prog ops Q rest (a.put o.dst (.slice A' (n + l.length) c')) w') :
    wpList Tryd.prog ops Q (o :: rest) a w := by
  obtain ⟨i0, hin, hz0, hz1, hz2⟩ := info_parts infoItem
  refine wpList_plain hgd fun K hK => ?_
  have happ : itmsC (xs ++ l) = itmsC xs ++ itmsC l := by unfold itmsC; rw [List.map_append, List.flatten_append]
  rw [happ] at h
  cases A with
  | none =>
    obtain rfl := hn rfl
    have hl : l = [] := by
      cases l with
      | nil => rfl
      | cons y r =>
        obtain ⟨b, o, e, _⟩ := hi (by simp)
        cases e
    subst hl
    obtain ⟨A', c', rfl, hc, hnn⟩ := own_formT hown
    have hrun := run_append_owned_none (P := Tryd.prog) (w := w) base 49 o.type 59 i0 5 Tryd.underlying49 hin _ n (itmsC xs) hown
    have hK2 := h A' c' w (by simpa [itmsC] using hown) ⟨rfl, rfl, rfl, Nat.le_refl _, fun _ _ _ => rfl⟩ hnn
    unfold Oper.wp
    simp only [List.length_nil, Nat.add_zero] at hK2
    simp [execOp, ho, resolve, invoke, builtin, hs, hx, hrun, Result.andThen]
    exact hK _ _ hK2
  | some ad =>
    obtain ⟨v', w', hr, hown', hg, _⟩ := run_append_own_at (P := Tryd.prog) (w := w) base 49 o.type 59 i0 _ 5 56 Tryd.underlying49 hin hz0 hz1 hz2 rfl (by decide) v n (itmsC xs) hown ad l.length c (itmsC l) (itmsC_len l) (by
      intro j u hj
      have hjl : j < l.length * 5 := by
        have := (List.getElem?_eq_some_iff.1 hj).1
        rwa [itmsC_len] at this
      obtain ⟨b, o, h1, h2, h3⟩ := hi (by omega)
      injection h1 with h1
      subst h1
      rw [addr_add]
      obtain ⟨y, hy, hy2⟩ := get_itmsC l j hjl
      rw [hy2] at hj
      have := h3 (j / 5) y hy (j % 5) u hj
      rw [show o + j = o + j / 5 * 5 + j % 5 by omega]
      exact this) (by
      intro u hu
      obtain ⟨j, hj, rfl⟩ := List.getElem_of_mem hu
      have hjl : j < l.length * 5 := by rwa [itmsC_len] at hj
      obtain ⟨y, hy, hy2⟩ := get_itmsC l j hjl
      rw [List.getElem?_eq_getElem hj] at hy2
      have hm : (itmsC l)[j] ∈ itmC y := List.mem_of_getElem? hy2.symm
      simp only [itmC, List.mem_cons, List.not_mem_nil, or_false] at hm
      rcases hm with e | e | e | e | e <;> rw [e] <;> rfl) (by unfold maxLen; omega) hbytes hbase
    obtain ⟨A', c', rfl, hc, hnn⟩ := own_formT hown'
    have hK2 := h A' c' w' hown' hg hnn
    unfold Oper.wp
    simp [execOp, ho, resolve, invoke, builtin, hs, hx, hr, Result.andThen]
    exact hK _ _ hK2
end
theorem ItmA.take {w : World} {A : Option Addr} {l : List Itm} (h : ItmA w A l) (n : Nat) : ItmA w A (l.take n) := fun hl => by
  rw [List.length_take] at hl
  obtain ⟨g, o, h1, h2, h3⟩ := h (by omega)
  refine ⟨g, o, h1, h2, fun i x hx => h3 i x ?_⟩
  rw [List.getElem?_take] at hx
  split at hx
  · exact hx
  · cases hx
theorem own_emptyI {w : World} {B : Nat} (hB : B ≤ w.heap.size) : (w.alloc (.cells #[] 59)).ownsRow B 59 5 (.slice (some ⟨w.heap.size, 0, none⟩) 0 0) 0 (itmsC []) := World.ownsRow_lit (e := 59) (size := 5) (base := B) w #[] 0 hB (by decide) rfl
set_option maxRecDepth 100000 in
set_option maxHeartbeats 1600000 in
theorem ifew_any (A : Option Addr) (c : Nat) (l : List Itm) (n : Nat) (w : World) (hi : ItmA w A l) (hn : A = none → c = 0) (hc : l.length ≤ c) (hl : n * 56 ≤ 140737488355328) :
    Calls Tryd.prog 30 #[.slice A l.length c, .int .i64 n] w fun e w' => ∃ A' c', e = .returned (.slice A' (l.take n).length c') ∧ w'.ownsRow w.heap.size 59 5 (.slice A' (l.take n).length c') (l.take n).length (itmsC (l.take n)) ∧ (A' = none → c' = 0) ∧ Below w.heap.size w w' := by
  have hb0 := (Below.refl w.heap.size w).alloc (Nat.le_refl _) (.cells #[] 59)
  have HB0 := Lib.hid hb0
  have HI := Lib.hid ((hi.take n).below hb0)
  have HO := Lib.hid (own_emptyI (w := w) (Nat.le_refl _))
  have HA := Lib.hid (show n < l.length → ∃ g o, A = some ⟨g, o, none⟩ from fun h => by obtain ⟨g, o, e, _⟩ := hi (by omega); exact ⟨g, o, e⟩)
  clear hi hb0
  by_cases h : n < l.length
  · have h1 : (n : Int) < (l.length : Int) := by omega
    have hlt : (l.take n).length = n := by rw [List.length_take]; omega
    obtain ⟨g, o, rfl⟩ := HA.out h
    have hc2 : (n : Int) ≤ (c : Int) := by omega
    have hn0 : (0 : Int) ≤ (n : Int) := by omega
    clear hn
    go_enter Tryd.func30, Tryd.ntmps30
    go_wp2_with (at_builtin; refine wpList_appItems rfl _ _ rfl w.heap.size _ 0 [] rfl HO.out (some ⟨g, o, none⟩) c (l.take n) (by rw [hlt]; rfl) HI.out (fun h => by cases h) (by omega) HB0.out.size ?_; intro A' c' w5 ho5 hg5 hn5; rw [Nat.zero_add, List.nil_append] at ho5; rw [Nat.zero_add])
    have HB5 := Lib.hid (HB0.out.grown hg5 HB0.out.size fun j hj => (HO.out.lt j hj).1)
    go_wp2
    go_ret
    exact ⟨A', c', by first | rfl | (rw [hlt]; rfl) | rw [hlt], ho5, hn5, HB5.out⟩
  · have h1 : ¬ (n : Int) < (l.length : Int) := by omega
    have hlt : l.take n = l := List.take_of_length_le (by omega)
    rw [hlt] at HI ⊢
    go_enter Tryd.func30, Tryd.ntmps30
    go_wp2_with (at_builtin; refine wpList_appItems rfl _ _ rfl w.heap.size _ 0 [] rfl HO.out A c l rfl HI.out hn (by omega) HB0.out.size ?_; intro A' c' w5 ho5 hg5 hn5; rw [Nat.zero_add, List.nil_append] at ho5; rw [Nat.zero_add])
    have HB5 := Lib.hid (HB0.out.grown hg5 HB0.out.size fun j hj => (HO.out.lt j hj).1)
    go_wp2
    go_ret
    exact ⟨A', c', by rfl, ho5, hn5, HB5.out⟩
/-- the value of a row of items that came in -/
def ItmP (w : World) (v : Value) (l : List Itm) : Prop := ∃ A c, v = .slice A l.length c ∧ ItmA w A l ∧ l.length * 56 ≤ 140737488355328 ∧ (∀ x ∈ l, ItB x) ∧ (A = none → c = 0) ∧ l.length ≤ c
end Go.Proofs.YtaoejgnfoecpfaaDoor
namespace Go.Proofs.YtaoejgnfoecpfaaDoor
set_option linter.unusedVariables false
set_option linter.unusedSimpArgs false
set_option linter.unusedSectionVars false
open Go.RowKit Go.Maps Go.ChangeShapes Go.WideShapes Go.ChangeAt Go.Deep

section
variable {H : Type} {enc : TypeId × Value → H} {W : World} {base base' : Nat} {v : Value} {d : DataW H} {p : List MemPlace}
theorem arr5 {cs : Array Value} {a b c d e : Value} (hs : cs.size = 5) (h0 : cs[0]? = some a) (h1 : cs[1]? = some b) (h2 : cs[2]? = some c) (h3 : cs[3]? = some d) (h4 : cs[4]? = some e) : cs = #[a, b, c, d, e] := by
  obtain ⟨l⟩ := cs
  match l, hs with
  | [x, y, z, u, v], _ => simp_all
theorem slice_cap {t e : TypeId} (ht : Tryd.prog.underlying t = some (.slice e)) {fu : Nat} {y : DataW H × List MemPlace} (h : DataW.trod enc Tryd.prog W base' (fun _ => true) true fu t [v] = some y) : ∃ A n c, v = .slice A n c ∧ n ≤ c ∧ (A = none → c = 0) := by
  obtain ⟨d, p⟩ := y
  rcases open_slice ht h with ⟨hcs, _⟩ | ⟨a, len0, cap0, m, n, D, Pl, hcs, hb, hl, hm, hmm, hx0, hi⟩
  · obtain rfl : v = .slice none 0 0 := by simpa using hcs
    exact ⟨none, 0, 0, rfl, Nat.le_refl _, fun _ => rfl⟩
  · obtain rfl : v = .slice (some a) len0 cap0 := by simpa using hcs
    exact ⟨some a, len0, cap0, rfl, by omega, fun h => by cases h⟩
set_option maxRecDepth 100000 in
theorem items_in (hv : Value.okWide Tryd.prog W .any base 49 v) (h : DataW.Trod enc Tryd.prog W base' (fun _ => true) true 49 v d p) (hwt : ∀ n ∈ d.weights Tryd.prog 49, n ≤ reachBytes) : ∃ l, ItmP W v l := by
  obtain ⟨fuel, hf⟩ := h
  rw [okWide_cells Tryd.underlying49 hv] at hf
  obtain ⟨A0, n0, c0, hv0, hnc0, hA0⟩ := slice_cap Tryd.underlying49 hf
  have : ∃ l, RowS W 5 (fun (cs : Array Value) (x : Itm) => cs = (itmC x).toArray ∧ ItB x) v l ∧ l.length * Tryd.prog.bytesOf 59 ≤ reachBytes := by
    refine rows_sized (fs := _) (fun (cs : Array Value) (x : Itm) => cs = (itmC x).toArray ∧ ItB x) Tryd.underlying49 Tryd.underlying59 (by decide) (by kernel_rfl) (by kernel_rfl) hf hwt fun cs hs hf => ?_
    obtain ⟨u0, n0, y0, h0, t0, g0⟩ := hf 0 _ rfl
    obtain ⟨u1, n1, y1, h1, t1, g1⟩ := hf 1 _ rfl
    obtain ⟨u2, n2, y2, h2, t2, g2⟩ := hf 2 _ rfl
    obtain ⟨u3, n3, y3, h3, t3, g3⟩ := hf 3 _ rfl
    obtain ⟨u4, n4, y4, h4, t4, g4⟩ := hf 4 _ rfl
    obtain ⟨pa, rfl, z0⟩ := string_sized Tryd.underlying9 t0 g0
    obtain ⟨ki, rfl, z1⟩ := int_trod Tryd.underlying3 t1
    obtain ⟨mo, rfl, z2⟩ := int_trod Tryd.underlying3 t2
    obtain ⟨ti, rfl, z3⟩ := int_trod Tryd.underlying3 t3
    obtain ⟨da, rfl, z4⟩ := string_sized Tryd.underlying9 t4 g4
    exact ⟨⟨pa, ki, mo, ti, da⟩, arr5 hs h0 h1 h2 h3 h4, ⟨z0, z4⟩⟩
  obtain ⟨l, ⟨A, c, rfl, hl, hp⟩, hz⟩ := this
  rw [show Tryd.prog.bytesOf 59 = 56 by kernel_rfl] at hz
  have hz := reach47 hz
  injection hv0 with e1 e2 e3
  subst e1 e2 e3
  refine ⟨l, _, _, rfl, fun hpos => ?_, by omega, fun x hx => ?_, ?_, ?_⟩
  · obtain ⟨b, o, cs, rfl, hb, _, _⟩ := hp 0 hpos
    refine ⟨b, o, rfl, hb, fun i x hi j u hj => ?_⟩
    have hil : i < l.length := (List.getElem?_eq_some_iff.1 hi).1
    obtain ⟨b2, o2, cs2, e, _, ⟨hcs, _⟩, hcell2⟩ := hp i hil
    injection e with e
    injection e with e1 e2
    subst e1 e2
    obtain rfl : l[i] = x := (List.getElem?_eq_some_iff.1 hi).2
    exact hcell2 j u (by rw [hcs]; simpa using hj)
  · obtain ⟨i, hi, rfl⟩ := List.getElem_of_mem hx
    obtain ⟨_, _, _, _, _, ⟨_, hb⟩, _⟩ := hp i hi
    exact hb
  · exact hA0
  · exact hnc0
end
end Go.Proofs.YtaoejgnfoecpfaaDoor
namespace Go.Proofs.YtaoejgnfoecpfaaDoor
set_option linter.unusedVariables false
set_option linter.unusedSimpArgs false
set_option linter.unusedSectionVars false
open Go.RowKit

deriving instance DecidableEq for Itm
theorem itm_ext {x y : Itm} (h0 : x.path = y.path) (h1 : x.kind = y.kind) (h2 : x.mode = y.mode) (h3 : x.time = y.time) (h4 : x.data = y.data) : x = y := by
  cases x
  cases y
  simp_all
theorem itmK : Tryd.prog.stoodInHeld 59 = false := by kernel_rfl
theorem tl_iff (a b : ByteArray) : a.toList = b.toList ↔ a = b := by
  have := txt_eqb a b
  rw [Bool.eq_iff_iff, beq_iff_eq, decide_eq_true_eq] at this
  exact this
set_option maxRecDepth 100000 in
theorem eqItem (a b c d e a' b' c' d' e') (w : World) : (Op.equalIn 10000 59 (.agg #[.string a, .int .i64 b, .int .i64 c, .int .i64 d, .string e]) (.agg #[.string a', .int .i64 b', .int .i64 c', .int .i64 d', .string e'])).run Tryd.prog w = .ok (decide ((⟨a, b, c, d, e⟩ : Itm) = ⟨a', b', c', d', e'⟩)) w := by
  have hS : Tryd.prog.underlying 59 = some (.struct (Tryd.prog.fieldsOf 59)) := by kernel_rfl
  rw [show (10000 : Nat) = 9999 + 1 from rfl, run_equalIn_agg w 9999 59 _ _ hS itmK]
  simp only [Program.fieldsOf, Tryd.underlying59]
  go_simp
  by_cases h1 : a = a' <;> by_cases h2 : b = b' <;> by_cases h3 : c = c' <;> by_cases h4 : d = d' <;> by_cases h5 : e = e' <;> simp [h1, h2, h3, h4, h5, tl_iff]
def eqI (x y : Itm) : Bool := decide (x = y)
def neI (x y : Itm) : Bool := !decide (x = y)
@[go_sem high] theorem neqItem (a b c d e a' b' c' d' e') (w : World) : (binOp .neq 59 (.agg #[.string a, .int .i64 b, .int .i64 c, .int .i64 d, .string e]) (.agg #[.string a', .int .i64 b', .int .i64 c', .int .i64 d', .string e'])).run Tryd.prog w = .ok (.bool (neI ⟨a, b, c, d, e⟩ ⟨a', b', c', d', e'⟩)) w := by
  rw [run_neq_struct, eqItem]
  rfl
@[go_sem high] theorem eqlItem (a b c d e a' b' c' d' e') (w : World) : (binOp .eql 59 (.agg #[.string a, .int .i64 b, .int .i64 c, .int .i64 d, .string e]) (.agg #[.string a', .int .i64 b', .int .i64 c', .int .i64 d', .string e'])).run Tryd.prog w = .ok (.bool (eqI ⟨a, b, c, d, e⟩ ⟨a', b', c', d', e'⟩)) w := by
  rw [run_eql_struct, eqItem]
  rfl
theorem itm_cells {w : World} {g o : Nat} {l : List Itm} (h : ∀ (i : Nat) (x : Itm), l[i]? = some x → ∀ (j : Nat) (u : Value), (itmC x)[j]? = some u → w.cell? ⟨g, o + i * 5 + j, none⟩ = some u) {k : Nat} (hk : k < l.length) :
    w.cell? ⟨g, o + k * 5, none⟩ = some (.string l[k].path) ∧ w.cell? ⟨g, o + k * 5 + 1, none⟩ = some (.int .i64 l[k].kind) ∧ w.cell? ⟨g, o + k * 5 + 2, none⟩ = some (.int .i64 l[k].mode) ∧ w.cell? ⟨g, o + k * 5 + 3, none⟩ = some (.int .i64 l[k].time) ∧ w.cell? ⟨g, o + k * 5 + 4, none⟩ = some (.string l[k].data) :=
  have h1 := h k l[k] (List.getElem?_eq_getElem hk)
  ⟨h1 0 _ rfl, h1 1 _ rfl, h1 2 _ rfl, h1 3 _ rfl, h1 4 _ rfl⟩
set_option maxRecDepth 100000 in
set_option maxHeartbeats 6400000 in
theorem isame_any (A B : Option Addr) (ca cb : Nat) (la lb : List Itm) (w : World) (ha : ItmA w A la) (hb : ItmA w B lb) (hl : la.length ≤ 9223372036854775807) :
    Calls Tryd.prog 54 #[.slice A la.length ca, .slice B lb.length cb] w fun e w' => e = .returned (.bool (decide (la = lb))) ∧ Below w.heap.size w w' := by
  have HA := Lib.hid fun W (hb : Below w.heap.size w W) => ha.below hb
  have HB := Lib.hid fun W (h : Below w.heap.size w W) => hb.below h
  clear ha hb
  by_cases hlen : la.length = lb.length
  · have hq : ((la.length : Int) != (lb.length : Int)) = false := by rw [len_neb, decide_eq_true hlen]; rfl
    have HLE := Lib.hid hlen
    clear hlen
    go_enter Tryd.func54, Tryd.ntmps54
    go_wp2
    go_loopw [13] (fun i wr => ∃ k : Nat, i = .int .i64 k ∧ k ≤ la.length ∧ Hid (la.take k = lb.take k) ∧ Hid (Below w.heap.size w wr)) (fun i _ => la.length - (intOf i).toNat)
    case atStart => exact ⟨0, rfl, Nat.zero_le _, Lib.hid (by simp), Lib.hid (Below.refl _ _)⟩
    case round =>
      obtain ⟨k, rfl, hk, HTK, HBL⟩ := hrel
      by_cases hkl : k < la.length
      · have hkb : k < lb.length := by have := HLE.out; omega
        obtain ⟨g, o, rfl, hg, hcc⟩ := HA.out wr HBL.out (by omega)
        obtain ⟨g', o', rfl, hg', hcc'⟩ := HB.out wr HBL.out (by omega)
        obtain ⟨p0, p1, p2, p3, p4⟩ := itm_cells hcc hkl
        obtain ⟨q0, q1, q2, q3, q4⟩ := itm_cells hcc' hkb
        have HNE := Lib.hid (ne_of_get (a := la) (b := lb) hkl hkb)
        have HEQ := Lib.hid (take_eq_snoc HTK.out hkl hkb)
        clear hcc hcc'
        generalize la[k] = x at *
        generalize lb[k] = y at *
        obtain ⟨xa, xb, xc, xd, xe⟩ := x
        obtain ⟨ya, yb, yc, yd, ye⟩ := y
        simp only at p0 p1 p2 p3 p4 q0 q1 q2 q3 q4
        have hk0 : (0 : Int) ≤ (k : Int) := by omega
        have hka : (k : Int) < (la.length : Int) := by omega
        have hkb2 : (k : Int) < (lb.length : Int) := by omega
        have hk3 : ((k : Int)).toNat = k := by omega
        go_upto_region 6 with fail
        by_cases hxy : (⟨xa, xb, xc, xd, xe⟩ : Itm) = ⟨ya, yb, yc, yd, ye⟩
        · have hv : neI ⟨xa, xb, xc, xd, xe⟩ ⟨ya, yb, yc, yd, ye⟩ = false := by unfold neI; rw [decide_eq_true hxy]; rfl
          have HQ := Lib.hid (HEQ.out hxy)
          clear hxy
          go_region
          go_wp2
          go_roundw
          case rel => exact ⟨k + 1, by go_num, by omega, HQ, Lib.hid HBL.out.drew⟩
          case measure => simp [intOf]; omega
        · have hv : neI ⟨xa, xb, xc, xd, xe⟩ ⟨ya, yb, yc, yd, ye⟩ = true := by unfold neI; rw [decide_eq_false hxy]; rfl
          have HX := Lib.hid (show decide (la = lb) = false from decide_eq_false (HNE.out hxy))
          clear hxy
          go_region
          go_wp2
          go_ret
          exact ⟨ret_bool HX.out.symm, HBL.out.drew⟩
      · obtain rfl : k = la.length := by omega
        have hki : ¬ (la.length : Int) < (la.length : Int) := by omega
        have HX := Lib.hid (show decide (la = lb) = true from decide_eq_true (by
          have := HTK.out
          rw [List.take_length, HLE.out, List.take_length] at this
          exact this))
        go_wp2
        go_ret
        exact ⟨ret_bool HX.out.symm, HBL.out⟩
  · have hq : ((la.length : Int) != (lb.length : Int)) = true := by rw [len_neb, decide_eq_false hlen]; rfl
    have HX := Lib.hid (show decide (la = lb) = false from decide_eq_false fun h => hlen (by rw [h]))
    clear hlen
    go_enter Tryd.func54, Tryd.ntmps54
    go_wp2
    go_ret
    exact ⟨ret_bool HX.out.symm, Below.refl _ _⟩
end Go.Proofs.YtaoejgnfoecpfaaDoor
namespace Go.Proofs.YtaoejgnfoecpfaaDoor
set_option linter.unusedVariables false
set_option linter.unusedSimpArgs false
set_option linter.unusedSectionVars false
open Go.RowKit

/-- two rows in order, path by path: 1 added, 2 removed, 3 changed -/
def diffL : List Itm → List Itm → List (ByteArray × Nat)
  | [], [] => []
  | [], y :: b => (y.path, 1) :: diffL [] b
  | x :: a, [] => (x.path, 2) :: diffL a []
  | x :: a, y :: b =>
    if cmpL (partsP x.path) (partsP y.path) < 0 then (x.path, 2) :: diffL a (y :: b)
    else if cmpL (partsP x.path) (partsP y.path) > 0 then (y.path, 1) :: diffL (x :: a) b
    else if x = y then diffL a b else (x.path, 3) :: diffL a b
termination_by a b => a.length + b.length
def turnN (n : Nat) : Nat := if n = 1 then 2 else if n = 2 then 1 else n
def turnC (c : ByteArray × Nat) : ByteArray × Nat := (c.1, turnN c.2)
theorem diff_self : ∀ a : List Itm, diffL a a = []
  | [] => by unfold diffL; rfl
  | x :: a => by
    unfold diffL
    rw [(cmpL_zero _ _).2 rfl, if_neg (by decide), if_neg (by decide), if_pos rfl]
    exact diff_self a
theorem diff_turn : ∀ (N : Nat) (a b : List Itm), a.length + b.length = N → diffL b a = (diffL a b).map turnC := by
  intro N
  induction N using Nat.strongRecOn with
  | _ N ih =>
    intro a b hN
    match a, b with
    | [], [] => unfold diffL; rfl
    | [], y :: b =>
      unfold diffL
      rw [ih (0 + b.length) (by simp at hN; omega) [] b (by simp)]
      rfl
    | x :: a, [] =>
      unfold diffL
      rw [ih (a.length + 0) (by simp at hN; omega) a [] (by simp)]
      rfl
    | x :: a, y :: b =>
      have ht := cmpL_turn (partsP x.path) (partsP y.path)
      have hr := cmpL_range (partsP x.path) (partsP y.path)
      simp only [List.length_cons] at hN
      conv => lhs; unfold diffL
      conv => rhs; unfold diffL
      by_cases h1 : cmpL (partsP x.path) (partsP y.path) < 0
      · rw [if_neg (by omega), if_pos (by omega), if_pos h1, ih (a.length + (b.length + 1)) (by omega) a (y :: b) (by simp)]
        rfl
      · by_cases h2 : cmpL (partsP x.path) (partsP y.path) > 0
        · rw [if_pos (by omega), if_neg h1, if_pos h2, ih (a.length + 1 + b.length) (by omega) (x :: a) b (by simp)]
          rfl
        · have hp : x.path = y.path := partsP_inj ((cmpL_zero _ _).1 (by omega))
          rw [if_neg (by omega), if_neg (by omega), if_neg h1, if_neg h2]
          by_cases he : x = y
          · rw [if_pos he, if_pos he.symm]
            exact ih (a.length + b.length) (by omega) a b rfl
          · rw [if_neg he, if_neg (fun e => he e.symm), ih (a.length + b.length) (by omega) a b rfl, hp]
            rfl
theorem diff_what : ∀ (N : Nat) (a b : List Itm), a.length + b.length = N → ∀ c ∈ diffL a b, c.2 = 1 ∨ c.2 = 2 ∨ c.2 = 3 := by
  intro N
  induction N using Nat.strongRecOn with
  | _ N ih =>
    intro a b hN c hc
    match a, b with
    | [], [] => unfold diffL at hc; cases hc
    | [], y :: b =>
      unfold diffL at hc
      rcases List.mem_cons.1 hc with rfl | hc
      · exact .inl rfl
      · exact ih (0 + b.length) (by simp at hN; omega) [] b (by simp) c hc
    | x :: a, [] =>
      unfold diffL at hc
      rcases List.mem_cons.1 hc with rfl | hc
      · exact .inr (.inl rfl)
      · exact ih (a.length + 0) (by simp at hN; omega) a [] (by simp) c hc
    | x :: a, y :: b =>
      simp only [List.length_cons] at hN
      unfold diffL at hc
      split at hc
      · rcases List.mem_cons.1 hc with rfl | hc
        · exact .inr (.inl rfl)
        · exact ih (a.length + (b.length + 1)) (by omega) a (y :: b) (by simp) c hc
      · split at hc
        · rcases List.mem_cons.1 hc with rfl | hc
          · exact .inl rfl
          · exact ih (a.length + 1 + b.length) (by omega) (x :: a) b (by simp) c hc
        · split at hc
          · exact ih (a.length + b.length) (by omega) a b rfl c hc
          · rcases List.mem_cons.1 hc with rfl | hc
            · exact .inr (.inr rfl)
            · exact ih (a.length + b.length) (by omega) a b rfl c hc
theorem diff_len : ∀ (N : Nat) (a b : List Itm), a.length + b.length = N → (diffL a b).length ≤ N := by
  intro N
  induction N using Nat.strongRecOn with
  | _ N ih =>
    intro a b hN
    match a, b with
    | [], [] => unfold diffL; simp
    | [], y :: b =>
      unfold diffL
      have := ih (0 + b.length) (by simp at hN; omega) [] b (by simp)
      simp only [List.length_cons, List.length_nil] at hN ⊢
      omega
    | x :: a, [] =>
      unfold diffL
      have := ih (a.length + 0) (by simp at hN; omega) a [] (by simp)
      simp only [List.length_cons, List.length_nil] at hN ⊢
      omega
    | x :: a, y :: b =>
      have h1 := ih (a.length + (b.length + 1)) (by simp only [List.length_cons] at hN; omega) a (y :: b) (by simp)
      have h2 := ih (a.length + 1 + b.length) (by simp only [List.length_cons] at hN; omega) (x :: a) b (by simp)
      have h3 := ih (a.length + b.length) (by simp only [List.length_cons] at hN; omega) a b rfl
      simp only [List.length_cons] at hN
      unfold diffL
      split
      · rw [List.length_cons]; omega
      · split
        · rw [List.length_cons]; omega
        · split
          · omega
          · rw [List.length_cons]; omega
/-- paths that stand apart are put in order in one way alone -/
theorem sorted_one : ∀ (a b : List Itm), a.Perm b → SortedI a → SortedI b → Apart a → a = b
  | [], b, hp, _, _, _ => (List.Perm.nil_eq hp)
  | x :: a, [], hp, _, _, _ => absurd hp.length_eq (by simp)
  | x :: a, y :: b, hp, ha, hb, hap => by
    have hxy : x = y := by
      have hx : x ∈ y :: b := hp.mem_iff.1 (by simp)
      have hy : y ∈ x :: a := hp.mem_iff.2 (by simp)
      rcases List.mem_cons.1 hx with h | h
      · exact h
      · rcases List.mem_cons.1 hy with h' | h'
        · exact h'.symm
        · have h1 := (List.pairwise_cons.1 hb).1 x h
          have h2 := (List.pairwise_cons.1 ha).1 y h'
          have h3 := cmpL_turn (partsP x.path) (partsP y.path)
          have h4 : x.path = y.path := partsP_inj ((cmpL_zero _ _).1 (by omega))
          exact absurd h4 ((List.pairwise_cons.1 hap).1 y h')
    subst hxy
    rw [sorted_one a b (List.Perm.cons_inv hp) (List.pairwise_cons.1 ha).2 (List.pairwise_cons.1 hb).2 (List.pairwise_cons.1 hap).2]
end Go.Proofs.YtaoejgnfoecpfaaDoor
namespace Go.Proofs.YtaoejgnfoecpfaaDoor
set_option linter.unusedVariables false
set_option linter.unusedSimpArgs false
set_option linter.unusedSectionVars false
open Go.RowKit

theorem tree_paths {l : List Itm} (h : TreeOk l) : ∀ x ∈ l, x.path.size ≤ 1000000 := fun x hx => Nat.le_trans (path_size (fit_path_ok (h.fit x hx))) (by decide)
/-- what walk.Walk gives -/
def WalkPost (l : List Itm) (w : World) (e : Ending) (w' : World) : Prop :=
  ∃ n : Nat, ChkR l n ∧ Below w.heap.size w w' ∧ ((n ≠ 0 ∧ e = .returned (.tuple #[.slice none 0 0, .int .i64 n])) ∨ (n = 0 ∧ ∃ A c ys, e = .returned (.tuple #[.slice A ys.length c, .int .i64 0]) ∧ ItmA w' A ys ∧ ys.Perm l ∧ SortedI ys ∧ ys.length = l.length ∧ ys.length ≤ c))
set_option maxRecDepth 100000 in
set_option maxHeartbeats 1600000 in
theorem wwalk_any (A : Option Addr) (c : Nat) (l : List Itm) (w : World) (he : Env w) (hi : ItmA w A l) (hb : ∀ x ∈ l, ItB x) (hl : l.length * 56 ≤ 140737488355328) :
    Calls Tryd.prog 29 #[.slice A l.length c] w (WalkPost l w) := by
  have HE := Lib.hid fun W (hb : Below w.heap.size w W) => he.below hb
  have HN := Lib.hid fun W (hb : Below w.heap.size w W) => hi.below hb
  have HC := Lib.hid (wcheck_any A c l w he hi hb (by omega))
  clear he hi hb
  go_enter Tryd.func29, Tryd.ntmps29
  go_wp2_with fail
  refine HC.out.mono ?_
  rintro e w1 ⟨n, rfl, hch, hb1⟩
  have HCH := Lib.hid hch
  have HB1 := Lib.hid hb1
  clear hch hb1
  by_cases hn0 : n = 0
  · subst hn0
    have HS := Lib.hid (wsort_any A c l w1 (HE.out _ HB1.out) (HN.out _ HB1.out) (tree_paths ((chk_zero HCH.out).1 rfl)) hl)
    go_wp2_with fail
    refine HS.out.mono ?_
    rintro e w2 ⟨A2, c2, ys, rfl, hi2, hpm, hso, hyl, hb2, hyc⟩
    have HR := Lib.hid (And.intro hi2 (And.intro hpm (And.intro hso (And.intro hyl (And.intro hyc hb2)))))
    clear hi2 hpm hso hyl hb2 hyc
    go_wp2
    go_ret2
    obtain ⟨hi2, hpm, hso, hyl, hyc, hb2⟩ := HR.out
    exact ⟨0, HCH.out, HB1.out.trans (hb2.mono HB1.out.size), .inr ⟨rfl, A2, c2, ys, rfl, hi2, hpm, hso, hyl, hyc⟩⟩
  · have hnz : ((n : Int) != 0) = true := by
      have : ¬ (n : Int) = 0 := by omega
      simpa using this
    have hnz2 : ¬ (n : Int) = 0 := by omega
    have HN0 := Lib.hid hn0
    clear hn0
    go_wp2
    go_ret2
    exact ⟨n, HCH.out, HB1.out, .inl ⟨HN0.out, rfl⟩⟩
end Go.Proofs.YtaoejgnfoecpfaaDoor
namespace Go.Proofs.YtaoejgnfoecpfaaDoor
set_option linter.unusedVariables false
set_option linter.unusedSimpArgs false
set_option linter.unusedSectionVars false
open Go.RowKit

theorem parent_lt {s : ByteArray} (h : s.size ≠ 0) : (parentP s).size < s.size := by
  unfold parentP
  rcases last_cases s with ⟨e, _, _⟩ | ⟨i, hi, e, _, _, _⟩
  · rw [e, ByteArray.size_extract]
    simp
    omega
  · rw [e, ByteArray.size_extract]
    simp
    omega
/-- is a path the other one, or in it? -/
def underI (at_ : ByteArray) (p : ByteArray) : Bool := if h : p.size = 0 then false else if p = at_ then true else underI at_ (parentP p)
termination_by p.size
decreasing_by exact parent_lt h
theorem under_nil {at_ p : ByteArray} (h : p.size = 0) : underI at_ p = false := by
  unfold underI
  rw [dif_pos h]
theorem under_self {p : ByteArray} (h : p.size ≠ 0) : underI p p = true := by
  unfold underI
  rw [dif_neg h, if_pos rfl]
theorem under_up {at_ p : ByteArray} (h : p.size ≠ 0) (hp : p ≠ at_) : underI at_ p = underI at_ (parentP p) := by
  conv => lhs; unfold underI
  rw [dif_neg h, if_neg hp]
set_option maxRecDepth 100000 in
set_option maxHeartbeats 400000 in
theorem pparentB (s : ByteArray) (w : World) (hs : s.size ≤ 140737488355328) : Calls Tryd.prog 20 #[.string s] w fun e w' => e = .returned (.string (parentP s)) ∧ w = w' := by
  have H1 := Lib.hid (Tryd.strings_LastIndexByte s 47 (by omega) w)
  have hr := last_range s
  have HP := Lib.hid (show parentP s = s.extract 0 (Lib.lastIndexByte s 47).toNat from rfl)
  generalize Lib.lastIndexByte s 47 = q at *
  have HQ := Lib.hid (show (max q 0).toNat = q.toNat by omega)
  go_enter Tryd.func20, Tryd.ntmps20
  go_wp2_with fail
  refine H1.out.mono ?_
  rintro e w1 ⟨rfl, rfl⟩
  go_wp2
  go_ret
  exact ⟨ret_str (by rw [HP.out, HQ.out]), rfl⟩
theorem itmsC_add (a : List Itm) (x : Itm) : itmsC (a ++ [x]) = itmsC a ++ itmC x := by
  unfold itmsC
  rw [List.map_append, List.flatten_append]
  simp
theorem filter_snoc {p : Itm → Bool} {l : List Itm} {k : Nat} (h : k < l.length) : (l.take (k + 1)).filter p = (l.take k).filter p ++ if p l[k] = true then [l[k]] else [] := by
  rw [List.take_succ_eq_append_getElem h, List.filter_append]
  congr 1
  cases hp : p l[k] <;> simp [hp]
theorem filter_len {p : Itm → Bool} (l : List Itm) (k : Nat) : ((l.take k).filter p).length ≤ l.length := Nat.le_trans (List.length_filter_le _ _) (by rw [List.length_take]; omega)
set_option maxRecDepth 100000 in
set_option maxHeartbeats 3200000 in
theorem wunder_any (A : Option Addr) (c : Nat) (l : List Itm) (at_ : ByteArray) (w : World) (hi : ItmA w A l) (hb : ∀ x ∈ l, ItB x) (hl : (l.length + 1) * 56 ≤ 140737488355328) :
    Calls Tryd.prog 55 #[.slice A l.length c, .string at_] w fun e w' => ∃ B d, e = .returned (.slice B (l.filter fun x => underI at_ x.path).length d) ∧ w'.ownsRow w.heap.size 59 5 (.slice B (l.filter fun x => underI at_ x.path).length d) (l.filter fun x => underI at_ x.path).length (itmsC (l.filter fun x => underI at_ x.path)) ∧ Below w.heap.size w w' := by
  have HN := Lib.hid fun W (hb : Below w.heap.size w W) => hi.below hb
  have HIB := Lib.hid hb
  clear hi hb
  go_enter Tryd.func55, Tryd.ntmps55
  go_wp2
  go_loopw [5, 11] (fun ov iv wr => ∃ (k : Nat) (B : Option Addr) (d : Nat) (acc : List Itm), ov = .slice B acc.length d ∧ iv = .int .i64 (k : Nat) ∧ k ≤ l.length ∧ acc.length ≤ k ∧ Hid (acc = (l.take k).filter fun x => underI at_ x.path) ∧ Hid (wr.ownsRow w.heap.size 59 5 (.slice B acc.length d) acc.length (itmsC acc)) ∧ Hid (Below w.heap.size w wr)) (fun _ iv _ => l.length - (intOf iv).toNat)
  case atStart => exact ⟨0, none, 0, [], rfl, rfl, Nat.zero_le _, Nat.zero_le _, Lib.hid (by simp), Lib.hid (World.ownsRow_nil _ _ _ _), Lib.hid (Below.refl _ _)⟩
  case round =>
    obtain ⟨k, B, d, acc, rfl, rfl, hk, hak, HAC, HO, HB⟩ := hrel
    by_cases hkl : k < l.length
    · have hki : (k : Int) < (l.length : Int) := by omega
      have hs := @filter_snoc (fun x => underI at_ x.path) l k hkl
      have hbx := HIB.out _ (List.getElem_mem hkl)
      obtain ⟨g, o, rfl, hg, hcc⟩ := HN.out wr HB.out (by omega)
      have hcx := hcc k l[k] (List.getElem?_eq_getElem hkl)
      clear hcc
      rw [← HAC.out] at hs
      generalize l[k] = x at *
      obtain ⟨pa, ki, mo, ti, da⟩ := x
      have hpz : pa.size ≤ 140737488355328 := hbx.path
      have q0 : wr.cell? ⟨g, o + k * 5, none⟩ = some (.string pa) := hcx 0 _ rfl
      have q1 : wr.cell? ⟨g, o + k * 5 + 1, none⟩ = some (.int .i64 ki) := hcx 1 _ rfl
      have q2 : wr.cell? ⟨g, o + k * 5 + 2, none⟩ = some (.int .i64 mo) := hcx 2 _ rfl
      have q3 : wr.cell? ⟨g, o + k * 5 + 3, none⟩ = some (.int .i64 ti) := hcx 3 _ rfl
      have q4 : wr.cell? ⟨g, o + k * 5 + 4, none⟩ = some (.string da) := hcx 4 _ rfl
      clear hcx hbx
      have hba := (Below.refl wr.heap.size wr).alloc (Nat.le_refl _) (.cells #[.string pa, .int .i64 ki, .int .i64 mo, .int .i64 ti, .string da] 59)
      have HB2 := Lib.hid (HB.out.trans (hba.mono HB.out.size))
      have HK := Lib.hid (Blk.new wr 59 #[.string pa, .int .i64 ki, .int .i64 mo, .int .i64 ti, .string da])
      have HO2 := Lib.hid (own_atN HO.out fun i hi => hba.block i (HO.out.lt i hi).2)
      simp only at hs
      have HS := Lib.hid hs
      clear hs hba
      obtain ⟨wo, rfl⟩ : ∃ wo : World, wo = wr := ⟨_, rfl⟩
      go_wp2
      generalize wo.alloc (.cells #[.string pa, .int .i64 ki, .int .i64 mo, .int .i64 ti, .string da] 59) = w1 at *
      go_loopw [5, 8] (fun ov pv wi => ∃ p : ByteArray, wi = w1 ∧ ov = .slice B acc.length d ∧ pv = .string p ∧ p.size ≤ 140737488355328 ∧ Hid (underI at_ p = underI at_ pa)) (fun _ pv _ => match pv with | .string b => b.size | _ => 0)
      case atStart => exact ⟨pa, rfl, rfl, rfl, hpz, Lib.hid rfl⟩
      case round =>
        obtain ⟨p, rfl, rfl, rfl, hps, HU⟩ := hrel
        have hem : p.toList.isEmpty = decide (p.size = 0) := toList_isEmpty p
        by_cases h0 : p.size = 0
        · rw [decide_eq_true h0] at hem
          have HV := Lib.hid (HS.out.trans (by rw [← HU.out, under_nil h0]; simp : _ = acc))
          clear h0
          go_wp2
          go_roundw
          case rel => exact ⟨k + 1, B, d, acc, rfl, by go_num, by omega, by omega, Lib.hid HV.out.symm, HO2, HB2⟩
          case measure => simp [intOf]; omega
        · rw [decide_eq_false h0] at hem
          by_cases hpa : p = at_
          · subst hpa
            have hx : (p.toList == p.toList) = true := by simp
            have HV := Lib.hid (HS.out.trans (by rw [← HU.out, under_self h0]; simp : _ = acc ++ [⟨pa, ki, mo, ti, da⟩]))
            obtain c0 : wr.cell? ⟨wo.heap.size, 0, none⟩ = some (.string pa) := HK.out.cell 0
            obtain c1 : wr.cell? ⟨wo.heap.size, 1, none⟩ = some (.int .i64 ki) := HK.out.cell 1
            obtain c2 : wr.cell? ⟨wo.heap.size, 2, none⟩ = some (.int .i64 mo) := HK.out.cell 2
            obtain c3 : wr.cell? ⟨wo.heap.size, 3, none⟩ = some (.int .i64 ti) := HK.out.cell 3
            obtain c4 : wr.cell? ⟨wo.heap.size, 4, none⟩ = some (.string da) := HK.out.cell 4
            have hl4 : (itmsC acc).length = acc.length * 5 := itmsC_len acc
            clear h0
            go_wp2_with (at_builtin; refine wpList_app1s rfl _ _ 49 rfl w.heap.size 59 Tryd.underlying49 infoItem rfl (by decide) _ _ _ rfl HO2.out _ (by simp) rfl rfl (by simp [Value.oneCell']) (by omega) (by omega) HB2.out.size ?_; intro g5 cap5 w5 ho5 hg5 hb5 hl5
                         have HO5 := Lib.hid (show w5.ownsRow w.heap.size 59 5 (.slice (some ⟨g5, 0, none⟩) (acc.length + 1) cap5) (acc.length + 1) (itmsC (acc ++ [⟨pa, ki, mo, ti, da⟩])) by
                           rw [itmsC_add]
                           exact ho5)
                         have HB5 := Lib.hid (HB2.out.grown hg5 HB2.out.size fun j hj => (HO2.out.lt j hj).1)
                         clear ho5 hg5 hb5 hl5)
            go_wp2
            go_roundw
            case rel => exact ⟨k + 1, some ⟨g5, 0, none⟩, cap5, acc ++ [⟨pa, ki, mo, ti, da⟩], by simp, by go_num, by omega, by simp; omega, Lib.hid HV.out.symm, Lib.hid (by simpa using HO5.out), HB5⟩
            case measure => simp [intOf]; omega
          · have hx : (p.toList == at_.toList) = false := by rw [txt_eqb, decide_eq_false hpa]
            have HV := Lib.hid ((under_up h0 hpa).symm.trans HU.out)
            have HP := Lib.hid (pparentB p wr hps)
            have hlt := parent_lt h0
            clear h0 hpa
            go_wp2_with fail
            refine HP.out.mono ?_
            rintro e w6 ⟨rfl, rfl⟩
            go_wp2
            go_roundw
            case rel => exact ⟨parentP p, by trivial, rfl, rfl, by omega, HV⟩
            case measure => simpa using hlt
    · obtain rfl : k = l.length := by omega
      have hki : ¬ (l.length : Int) < (l.length : Int) := by omega
      have HV := Lib.hid HAC.out
      rw [List.take_length] at HV
      go_wp2
      go_ret
      rw [← HV.out]
      exact ⟨B, d, rfl, HO.out, HB.out⟩
end Go.Proofs.YtaoejgnfoecpfaaDoor
