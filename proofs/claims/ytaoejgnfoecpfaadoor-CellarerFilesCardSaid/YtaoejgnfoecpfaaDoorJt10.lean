/- The library's Collect of a row of items. walk.Sort, walked: a row in order. walk.Sort, walked: what it gives. -/
import Derived.Test.YtaoejgnfoecpfaaDoorJt9
import Derived.Test.YtaoejgnfoecpfaaDoorJt7
import Derived.OwnWalkIn
import Derived.Test.YtaoejgnfoecpfaaDoorJt3
namespace Go.Proofs.YtaoejgnfoecpfaaDoor
set_option linter.unusedVariables false
set_option linter.unusedSimpArgs false
set_option linter.unusedSectionVars false
open Go.RowKit Go.Shelf
attribute [local go_sem] Oper.semAt_some

def itmsC (l : List Itm) : List Value := (l.map itmC).flatten
theorem itmsC_len (l : List Itm) : (itmsC l).length = l.length * 5 := by
  induction l with
  | nil => rfl
  | cons x r ih =>
    have e : itmsC (x :: r) = itmC x ++ itmsC r := rfl
    rw [e, List.length_append, ih, List.length_cons]
    have : (itmC x).length = 5 := rfl
    omega
theorem itmsC_snoc {l : List Itm} {i : Nat} {x : Itm} (h : l[i]? = some x) : itmsC (l.take (i + 1)) = itmsC (l.take i) ++ itmC x := by
  obtain ⟨hi, rfl⟩ := List.getElem?_eq_some_iff.1 h
  unfold itmsC
  rw [List.take_succ_eq_append_getElem hi, List.map_append, List.flatten_append]
  simp
theorem own_formS {w : World} {B n k : Nat} {t : TypeId} {v : Value} {xs : List Value} (h : w.ownsRow B t k v n xs) : ∃ A c, v = .slice A n c ∧ n ≤ c := by
  rcases h.2 with ⟨hv, hn⟩ | ⟨g, cap, cur, hv, _, _, hc, _⟩
  · exact ⟨none, 0, by rw [hv, hn], by omega⟩
  · exact ⟨some ⟨g, 0, none⟩, cap, hv, hc⟩
theorem own_atS {w w' : World} {B : Nat} {e : TypeId} {z n : Nat} {v : Value} {xs : List Value} (h : w.ownsRow B e z v n xs) (he : ∀ i, v.ownBlock = some i → w'.heap[i]? = w.heap[i]?) : w'.ownsRow B e z v n xs := by
  obtain ⟨q1, q2⟩ := h
  refine ⟨q1, q2.imp id ?_⟩
  rintro ⟨g, cap, cur, r1, r2, r3, r4⟩
  exact ⟨g, cap, cur, r1, r2, (he g (by rw [r1]; rfl)).trans r3, r4⟩
/-- an owned row of another type's elements is another block -/
theorem own_other {W : World} {base : Nat} {e : TypeId} {size : Nat} {v : Value} {k : Nat} {xs : List Value} (h : W.ownsRow base e size v k xs) {j : Nat} {o : Obj} (hj : W.heap[j]? = some o) (hno : ∀ cur, o ≠ .cells cur e (0, 0)) : v.ownBlock ≠ some j := by
  rcases h.2 with ⟨rfl, _⟩ | ⟨g, cap, cur, rfl, _, hgb, _⟩
  · simp [Value.ownBlock]
  · intro e'
    have : g = j := by simpa [Value.ownBlock] using e'
    subst this
    rw [hgb] at hj
    exact hno cur (Option.some.inj hj).symm
/-- between two rounds -/
structure ApM (w : World) (xs : List Itm) (rec : Loop) (i : Nat) (W : World) : Prop where
  le : i ≤ xs.length
  box : ∃ B d, W.heap[w.heap.size]? = some (.cells #[.slice B i d] 49 (0, 0)) ∧ W.ownsRow w.heap.size 59 5 (.slice B i d) i (itmsC (xs.take i))
  loop : W.heap[w.heap.size + 2]? = some (.loop rec)
  mark : W.heap[w.heap.size + 1]? = some (.deferred (some []))
  low : Below w.heap.size w W
theorem ApM.grow {w : World} {xs : List Itm} {rec : Loop} {i : Nat} {W W' : World} (h : ApM w xs rec i W) (hb : Below W.heap.size W W') : ApM w xs rec i W' := by
  have hl : w.heap.size + 2 < W.heap.size := (Array.getElem?_eq_some_iff.1 h.loop).1
  obtain ⟨B, d, h1, h2⟩ := h.box
  exact ⟨h.le, ⟨B, d, (hb.block _ (by omega)).trans h1, own_atS h2 fun k hk => hb.block k (h2.lt k hk).2⟩, (hb.block _ hl).trans h.loop, (hb.block _ (by omega)).trans h.mark, h.low.trans (hb.mono h.low.size)⟩
theorem tne : 49 ≠ 59 := by decide
theorem infoItem : (Tryd.prog.info? 59).map (fun i => (i.zero, i.size, i.bytes)) = some (some (.agg #[.string ⟨#[]⟩, .int .i64 0, .int .i64 0, .int .i64 0, .string ⟨#[]⟩]), 5, 56) := by kernel_rfl
set_option maxRecDepth 100000 in
set_option maxHeartbeats 3200000 in
theorem appseq_any (b : Nat) (A : Option Addr) (c : Nat) (xs : List Itm) (w : World) (hc : w.cell? ⟨b, 0, none⟩ = some (.slice A xs.length c)) (hi : ItmA w A xs) (hn : xs.length * 56 ≤ 140737488355328) :
    CallsIn Fence.wide 7 Tryd.prog 133 #[.slice none 0 0, .func (.func 122) #[] #[.pointer (some ⟨b, 0, none⟩)]] w fun e w' => ∃ A' c', e = .returned (.slice A' xs.length c') ∧ w'.ownsRow w.heap.size 59 5 (.slice A' xs.length c') xs.length (itmsC xs) ∧ Below w.heap.size w w' := by
  refine callsIn_of_wp_marks Tryd.func133 rfl trivial ?_ rfl
  simp only [Tryd.ntmps133, List.size_toArray, List.length_cons, List.length_nil, Nat.reduceAdd, Nat.reduceSub, Array.replicate_succ, Array.replicate_zero, List.push_toArray, List.append_toArray, List.nil_append, List.cons_append]
  obtain ⟨W0, hW0⟩ : ∃ W0, w.alloc (.cells #[.slice none 0 0] 49) = W0 := ⟨_, rfl⟩
  have hz0 : W0.heap.size = w.heap.size + 1 := by rw [← hW0]; simp
  have g0 : W0.heap[w.heap.size]? = some (.cells #[.slice none 0 0] 49 (0, 0)) := by rw [← hW0]; exact World.alloc_heap_new w _
  have hb0 : Below w.heap.size w W0 := by rw [← hW0]; exact (Below.refl _ w).alloc (Nat.le_refl _) _
  gi_wp2
  clear hW0
  refine range_open (gf := 122) (lb := #[.pointer (some ⟨b, 0, none⟩)]) rfl (enters_of Tryd.func122 (by kernel_rfl) rfl) ?_
  intro fn
  unfold begun
  rw [hz0]
  generalize hrec : recOf _ _ _ _ _ _ _ _ = rec
  obtain ⟨W1, hW1⟩ : ∃ W1, (W0.alloc (.deferred (some []))).alloc (.loop rec) = W1 := ⟨_, rfl⟩
  rw [hW1]
  have hk1 : ∀ k, k < w.heap.size + 1 → W1.heap[k]? = W0.heap[k]? := fun k hk => by
    rw [← hW1, Below.heap_alloc _ _ _ (by simp <;> omega), Below.heap_alloc _ _ _ (by omega)]
  have hk4 : W1.heap[w.heap.size + 1]? = some (.deferred (some [])) := by
    rw [← hW1, Below.heap_alloc _ _ _ (by simp <;> omega), ← hz0]; exact World.alloc_heap_new W0 _
  have hk5 : W1.heap[w.heap.size + 2]? = some (.loop rec) := by
    rw [← hW1]
    have := World.alloc_heap_new (W0.alloc (.deferred (some []))) (.loop rec)
    rwa [World.size_alloc, hz0] at this
  have hb1 : Below w.heap.size w W1 := by rw [← hW1]; exact (hb0.alloc (by omega) _).alloc (by simp <;> omega) _
  clear hW1
  have hM : ApM w xs rec 0 W1 := ⟨Nat.zero_le _, ⟨none, 0, (hk1 _ (by omega)).trans g0, ⟨rfl, .inl ⟨rfl, rfl⟩⟩⟩, hk5, hk4, hb1⟩
  have hblt : b < w.heap.size := cellLt hc
  refine (vals_in (7 - 1) (by decide) (w.heap.size + 2) b A c xs (by omega) (ApM w xs rec) (fun i W h => ⟨(h.low.cell (p := ⟨b, 0, none⟩) hblt).trans hc, hi.below h.low⟩) (fun i W W' h hb => h.grow hb) ?_ W1 hM).mono ?_
  · -- ONE ROUND
    intro i W0' x hx h0'
    have hlt0 : w.heap.size + 2 < W0'.heap.size := (Array.getElem?_eq_some_iff.1 h0'.loop).1
    have hil : i < xs.length := (List.getElem?_eq_some_iff.1 hx).1
    have hsn := itmsC_snoc hx
    have hy := run_yield (P := Tryd.prog) (args := #[.agg #[.string x.path, .int .i64 x.kind, .int .i64 x.mode, .int .i64 x.time, .string x.data]]) h0'.loop (by rw [← hrec]; rfl)
    rw [← hrec] at hy
    refine ⟨fn, _, _, _, hy, roundIn_of_wpIn trivial ?_⟩
    dsimp only [recOf]
    obtain ⟨pa, ki, mo, ti, da⟩ := x
    have hnewx := Blk.new W0' 59 #[.string pa, .int .i64 ki, .int .i64 mo, .int .i64 ti, .string da]
    have h := h0'.grow ((Below.refl W0'.heap.size W0').alloc (Nat.le_refl _) (.cells #[.string pa, .int .i64 ki, .int .i64 mo, .int .i64 ti, .string da] 59))
    have hzW : (W0'.alloc (.cells #[.string pa, .int .i64 ki, .int .i64 mo, .int .i64 ti, .string da] 59)).heap.size = W0'.heap.size + 1 := by simp
    obtain ⟨W, hW⟩ : ∃ W, W0'.alloc (.cells #[.string pa, .int .i64 ki, .int .i64 mo, .int .i64 ti, .string da] 59) = W := ⟨_, rfl⟩
    rw [hW] at h hzW hnewx
    obtain ⟨B, d, hbox, hown⟩ := h.box
    have hbr := run_beginRound (P := Tryd.prog) h.loop (by rw [← hrec]; rfl)
    have hl1 : (W.putObj (w.heap.size + 2) (.loop { rec with state := .busy })).heap[w.heap.size + 2]? = some (.loop { rec with state := .busy }) := World.putObj_heap_same (by omega)
    have hb2 : Below w.heap.size w (W.putObj (w.heap.size + 2) (.loop { rec with state := .busy })) := putObj_low h.low (by omega) _
    have hko := fun k (hk : k ≠ w.heap.size + 2) => (World.putObj_heap_other (w := W) (r := w.heap.size + 2) (o := .loop { rec with state := .busy }) (k := k) (fun e => hk e))
    have hz1 : (W.putObj (w.heap.size + 2) (.loop { rec with state := .busy })).heap.size = W.heap.size := World.putObj_size
    have hnl := own_other hown h.loop (fun cur e => by cases e)
    have hnm := own_other hown h.mark (fun cur e => by cases e)
    have hnb := own_other hown hbox (fun cur e => by injection e with e1 e2; exact absurd e2 tne)
    generalize W.putObj (w.heap.size + 2) (.loop { rec with state := .busy }) = V at *
    have hre : ({ rec with state := .ready, pending := none } : Loop) = rec := by rw [← hrec]; rfl
    have hboxV : V.heap[w.heap.size]? = some (.cells #[.slice B i d] 49 (0, 0)) := (hko _ (by omega)).trans hbox
    have hmarkV := (hko (w.heap.size + 1) (by omega)).trans h.mark
    have hownV := own_atS hown (w' := V) fun k hk => hko k fun e => hnl (e ▸ hk)
    have hxV : Blk V W0'.heap.size 59 #[.string pa, .int .i64 ki, .int .i64 mo, .int .i64 ti, .string da] := (hko _ (by omega)).trans hnewx
    have q0 : V.cell? ⟨W0'.heap.size, 0, none⟩ = some (.string pa) := hxV.cell 0
    have q1 : V.cell? ⟨W0'.heap.size, 1, none⟩ = some (.int .i64 ki) := hxV.cell 1
    have q2 : V.cell? ⟨W0'.heap.size, 2, none⟩ = some (.int .i64 mo) := hxV.cell 2
    have q3 : V.cell? ⟨W0'.heap.size, 3, none⟩ = some (.int .i64 ti) := hxV.cell 3
    have q4 : V.cell? ⟨W0'.heap.size, 4, none⟩ = some (.string da) := hxV.cell 4
    have hc2 : V.cell? ⟨w.heap.size, 0, none⟩ = some (.slice B i d) := by simp [World.cell?, hboxV]
    have hf2 : V.frozen? ⟨w.heap.size, 0, none⟩ = false := by simp [World.frozen?, hboxV]
    have hlV : w.heap.size + 3 < V.heap.size := by omega
    have hbC := (Below.refl V.heap.size V).alloc (Nat.le_refl _) (.cells #[.string pa, .int .i64 ki, .int .i64 mo, .int .i64 ti, .string da] 59)
    have hownC := own_atS hownV (w' := V.alloc (.cells #[.string pa, .int .i64 ki, .int .i64 mo, .int .i64 ti, .string da] 59)) fun k hk => hbC.block k (hownV.lt k hk).2
    have hnew := Blk.new V 59 #[.string pa, .int .i64 ki, .int .i64 mo, .int .i64 ti, .string da]
    have hcn : ∀ j u, (itmC ⟨pa, ki, mo, ti, da⟩)[j]? = some u → (V.alloc (.cells #[.string pa, .int .i64 ki, .int .i64 mo, .int .i64 ti, .string da] 59)).cell? ((⟨V.heap.size, 0, none⟩ : Addr).add j) = some u := fun j u hj => by
      rw [addr_add, Nat.zero_add, hnew.cell]
      simpa [itmC] using hj
    obtain ⟨i0, hinf, hiz, his, hib⟩ := info_parts infoItem
    have HBR := Lib.hid hbr
    have HOC := Lib.hid hownC
    have HCN := Lib.hid hcn
    have HB2 := Lib.hid hb2
    have HBC := Lib.hid hbC
    have HL1 := Lib.hid hl1
    have HRE := Lib.hid hre
    have HMV := Lib.hid hmarkV
    have HBV := Lib.hid hboxV
    have HSN := Lib.hid hsn
    have HNN := Lib.hid (And.intro hnl (And.intro hnm hnb))
    have HINF := Lib.hid (And.intro hinf (And.intro hiz (And.intro his hib)))
    clear h h0' hbr hownC hcn hb2 hbC hl1 hre hmarkV hboxV hsn hnl hnm hnb hinf hiz his hib hown hownV hnew hko hbox hy hx hnewx hxV hz1 hzW
    gi_wp2
    refine ⟨_, HBR.out, ?_⟩
    gi_wp2_with (first
      | (gi_at_builtin; refine wpListIn_append_own _ rfl _ _ 49 rfl w.heap.size 59 i0 _ 5 56 Tryd.underlying49 HINF.out.1 HINF.out.2.1 HINF.out.2.2.1 HINF.out.2.2.2 rfl (by decide) _ _ _ rfl HOC.out ⟨V.heap.size, 0, none⟩ 1 1 (itmC ⟨pa, ki, mo, ti, da⟩) rfl rfl HCN.out (fun u hu => by simp [itmC] at hu; rcases hu with rfl | rfl | rfl | rfl | rfl <;> rfl) (by unfold maxLen; omega) (by omega) (by have := HB2.out.size; simp; omega) ?_; intro v' w3 hown' hg3 _
         obtain ⟨A5, c5, rfl, _⟩ := own_formS hown'
         have hbx3 : w3.heap[w.heap.size]? = some (.cells #[.slice B i d] 49 (0, 0)) := (hg3.block _ (by simp; omega) (fun e => HNN.out.2.2 e.symm)).trans ((HBC.out.block _ (by omega)).trans HBV.out)
         have hl3 : w3.heap[w.heap.size + 2]? = some (.loop { rec with state := .busy }) := (hg3.block _ (by simp; omega) (fun e => HNN.out.1 e.symm)).trans ((HBC.out.block _ (by omega)).trans HL1.out)
         have hm3 : w3.heap[w.heap.size + 1]? = some (.deferred (some [])) := (hg3.block _ (by simp; omega) (fun e => HNN.out.2.1 e.symm)).trans ((HBC.out.block _ (by omega)).trans HMV.out)
         have hlow3 : Below w.heap.size w w3 := (HB2.out.trans (HBC.out.mono HB2.out.size)).grown hg3 (by have := HB2.out.size; simp; omega) (fun k hk => (HOC.out.lt k hk).1)
         have hc3 : w3.cell? ⟨w.heap.size, 0, none⟩ = some (.slice B i d) := by simp [World.cell?, hbx3]
         have hf3 : w3.frozen? ⟨w.heap.size, 0, none⟩ = false := by simp [World.frozen?, hbx3]
         have HO3 := Lib.hid hown'
         have HF3 := Lib.hid (And.intro hbx3 (And.intro hl3 (And.intro hm3 hlow3)))
         clear hown' hg3 hbx3 hl3 hm3 hlow3))
    obtain ⟨hbx3, hl3, hm3, hlow3⟩ := HF3.out
    have hks : ∀ k, k ≠ w.heap.size → (w3.setCell ⟨w.heap.size, 0, none⟩ (.slice A5 (i + 1) c5)).heap[k]? = w3.heap[k]? := fun k hk => Below.heap_setCell _ _ _ _ hk
    have hl4 := (hks (w.heap.size + 2) (by omega)).trans hl3
    have hlt4 := (Array.getElem?_eq_some_iff.1 hl4).1
    have hbx4 := Blk.set_ (w := w3) (g := w.heap.size) (t := 49) (cs := #[.slice B i d]) hbx3 0 (.slice A5 (i + 1) c5)
    have ho3 := HO3.out
    have n1 := own_other ho3 hbx3 (fun cur e => by injection e with e1 e2; exact absurd e2 tne)
    have n2 := own_other ho3 hl3 (fun cur e => by cases e)
    refine ⟨_, _, run_endRound (P := Tryd.prog) none hl4, rfl, ?_⟩
    refine ⟨hil, ⟨A5, c5, ?_, ?_⟩, ?_, ?_, putObj_low (hlow3.setCell (p := ⟨w.heap.size, 0, none⟩) (Nat.le_refl _) _) (by omega) _⟩
    · rw [World.putObj_heap_other (by omega)]
      exact hbx4
    · rw [HSN.out]
      refine own_atS ho3 fun k hk => ?_
      rw [World.putObj_heap_other (by rintro rfl; exact n2 hk), hks k (by rintro rfl; exact n1 hk)]
    · rw [World.putObj_heap_same hlt4]
      exact congrArg (fun r => some (Obj.loop r)) HRE.out
    · rw [World.putObj_heap_other (by omega), hks _ (by omega)]
      exact hm3
  · rintro e W2 ⟨⟨v, rfl⟩, h⟩
    have hend := run_endLoop (P := Tryd.prog) h.loop (by rw [← hrec]; simp [recOf])
    obtain ⟨B, d, hbox, hown⟩ := h.box
    rw [List.take_length] at hown
    have hko := fun k (hk : k ≠ w.heap.size + 2) => (World.putObj_heap_other (w := W2) (r := w.heap.size + 2) (o := .loop { rec with state := .exhausted }) (k := k) (fun e => hk e))
    have hnl := own_other hown h.loop (fun cur e => by cases e)
    have hnm := own_other hown h.mark (fun cur e => by cases e)
    have hb4 : Below w.heap.size w (W2.putObj (w.heap.size + 2) (.loop { rec with state := .exhausted })) := putObj_low h.low (by omega) _
    have hbx4 := (hko w.heap.size (by omega)).trans hbox
    have hm4 := (hko (w.heap.size + 1) (by omega)).trans h.mark
    have hown4 := own_atS hown (w' := W2.putObj (w.heap.size + 2) (.loop { rec with state := .exhausted })) fun k hk => hko k fun e => hnl (e ▸ hk)
    have hp : rec.pending = none := by rw [← hrec]; rfl
    generalize W2.putObj (w.heap.size + 2) (.loop { rec with state := .exhausted }) = W4 at *
    rw [hp] at hend
    refine ⟨none, _, hend, ?_⟩
    have hc4 : W4.cell? ⟨w.heap.size, 0, none⟩ = some (.slice B xs.length d) := by simp [World.cell?, hbx4]
    have HM4 := Lib.hid hm4
    have HB4 := Lib.hid hb4
    have HO4 := Lib.hid hown4
    have HNM := Lib.hid hnm
    clear hend h hrec hm4 hb4 hown4 hown hbox hko hbx4 hnl hnm
    gi_wp2
    refine ⟨by simp, .inl ⟨_, _, rfl, run_takeDeferred HM4.out, ?_⟩⟩
    refine ⟨_, results_tmp rfl _ _ _, B, d, rfl, own_atS HO4.out fun k hk => World.putObj_heap_other (by rintro rfl; exact HNM.out hk), putObj_low HB4.out (by omega) _⟩
end Go.Proofs.YtaoejgnfoecpfaaDoor
namespace Go.Proofs.YtaoejgnfoecpfaaDoor
set_option linter.unusedVariables false
set_option linter.unusedSimpArgs false
set_option linter.unusedSectionVars false
open Go Go.RowKit Go.Sort Go.Shelf

def insR : Go.Shelf.Ren := ⟨fun | 20 => 151 | n => n, fun | 0 => 0 | 3 => 3 | 4 => 4 | 22 => 49 | 24 => 59 | 25 => 140 | n => n, fun n => n⟩
theorem insL : Go.Proofs.SlLaysF0.n20 Tryd.prog insR where
  mixed := by kernel_rfl
  f20 := ⟨Tryd.f151.name, by kernel_rfl, Tryd.func151.trans (congrArg some (by kernel_rfl))⟩
  t0 := Tryd.underlying0
  a0 := Tryd.isAgg0
  z0 := Tryd.sizeOf0
  v0 := Tryd.zeroValue0
  t3 := Tryd.underlying3
  a3 := Tryd.isAgg3
  z3 := Tryd.sizeOf3
  v3 := Tryd.zeroValue3
  t4 := Tryd.underlying4
  a4 := Tryd.isAgg4
  z4 := Tryd.sizeOf4
  v4 := Tryd.zeroValue4
  t22 := Tryd.underlying49
  a22 := Tryd.isAgg49
  z22 := Tryd.sizeOf49
  v22 := Tryd.zeroValue49
  t25 := Tryd.underlying140
  a25 := Tryd.isAgg140
  z25 := Tryd.sizeOf140
  v25 := Tryd.zeroValue140
theorem cbypath : ∀ args w, (callFunc 90 args).run Tryd.prog w = .ok (.enter 90 args) w := fun _ _ => by kernel_rfl
theorem ins_any (blk off cap a b : Nat) (d : Array PIt) (w : World) (hcmp : CmpLays Tryd.prog 90 #[] pitC 5 cfP blk off d.size w) (hH : HoldsK pitC 5 w blk off d) (hblk : blk < w.heap.size) (hab : a ≤ b) (hb : b ≤ d.size) (hsz : d.size < 4611686018427387904) :
    Calls Tryd.prog 151 #[.slice (some ⟨blk, off, none⟩) d.size cap, .int .i64 a, .int .i64 b, .func (.func 90) #[] #[]] w (SymPost pitC 5 cfP w blk off a b d) := by
  have h := Go.Proofs.AnyQ.insertionSortCmpFunc insL 5 Tryd.isAgg59 Tryd.sizeOf59 pitC pitC_len pitC_one cfP 90 #[] blk off cap a b d w cbypath hcmp hH hblk hab hb hsz
  obtain ⟨h1, h2⟩ := insertionSort_holds (lt := ltOf cfP) swoP d a b hab hb
  exact h.mono fun e w' ⟨q1, q, os, q2⟩ => ⟨q1, _, ⟨q, os, q2⟩, h1, h2⟩
/-- the stable sort, of items -/
theorem stable_any (blk off cap : Nat) (d : Array PIt) (w : World) (he : ∃ m, w.cell? ⟨0, 0, none⟩ = some (.int .i64 m)) (h0 : blk ≠ 0) (hH : HoldsK pitC 5 w blk off d) (hblk : blk < w.heap.size) (hsz : d.size ≤ 1152921504606846976) :
    Calls Tryd.prog 134 #[.slice (some ⟨blk, off, none⟩) d.size cap, .int .i64 d.size, .func (.func 90) #[] #[]] w (SymPost pitC 5 cfP w blk off 0 d.size d) := by
  have B : Base Tryd.prog pitC 5 cfP 90 #[] blk off d.size w := ⟨stl, pitC_len, pitC_one, swoP, cbypath, bypath_lays blk off d.size w he h0, hblk, by omega, ⟨d, rfl, hH⟩⟩
  refine stable_open B hH hsz fun a b dk W hW hs hab hb => ?_
  have hB := B.at hW hs
  have hh := B.holds hW hs
  rw [← hs] at hb ⊢
  refine (ins_any blk off cap a b dk W (by rw [hs]; exact hB.hcmp) hh hB.hblk hab hb (by omega)).mono fun e w' ⟨q1, d', q2, q3, q4⟩ => ⟨q1, d', B.on hW q3.1 q2, q3, q4⟩
set_option maxRecDepth 100000 in
theorem ins_none (w : World) (fv : Value) : Calls Tryd.prog 151 #[.slice none 0 0, .int .i64 0, .int .i64 0, fv] w fun e w' => e = .returned (.tuple #[]) ∧ w = w' := by
  go_enter Tryd.func151, Tryd.ntmps151
  go_wp2
  go_loopw [8] (fun v wr => v = .int .i64 1 ∧ w = wr) (fun _ _ => 0)
  case atStart => exact ⟨rfl, rfl⟩
  case round =>
    obtain ⟨rfl, rfl⟩ := hrel
    go_wp2
    go_end0
    exact ⟨rfl, rfl⟩
set_option maxRecDepth 100000 in
theorem stable_none (w : World) (fv : Value) : Calls Tryd.prog 134 #[.slice none 0 0, .int .i64 0, fv] w fun e w' => e = .returned (.tuple #[]) ∧ w = w' := by
  have HI := Lib.hid (ins_none w fv)
  go_enter Tryd.func134, Tryd.ntmps134
  go_wp2
  go_loopw [7, 8] (fun a b wr => a = .int .i64 0 ∧ b = .int .i64 20 ∧ w = wr) (fun _ _ _ => 0)
  case atStart => exact ⟨rfl, rfl, rfl⟩
  case round =>
    obtain ⟨rfl, rfl, rfl⟩ := hrel
    go_wp2_with fail
    refine HI.out.mono ?_
    rintro e w' ⟨rfl, rfl⟩
    go_wp2
    go_loopw [6] (fun a wr => a = .int .i64 20 ∧ w = wr) (fun _ _ => 0)
    case atStart => exact ⟨rfl, rfl⟩
    case round =>
      obtain ⟨rfl, rfl⟩ := hrel
      go_wp2
      go_end0
      exact ⟨rfl, rfl⟩
theorem sortW_below {enc : PIt → List Value} {k B blk off q : Nat} {w : World} {d : Array PIt} {os : Array Obj} (hB : B ≤ blk) (hblk : blk < w.heap.size) : Below B w (sortWorldK enc k w blk off q d os) := by
  refine ⟨rfl, rfl, rfl, size_sortWorldK_c enc k w blk off q d os, fun j hj => ?_⟩
  unfold sortWorldK
  rw [heap_grow_old _ _ (by rw [size_putRowK]; show j < w.heap.size; omega)]
  unfold putRowK putRow mapBlock
  show (w.heap.modify blk _)[j]? = w.heap[j]?
  rw [Array.getElem?_modify, if_neg (by omega)]
end Go.Proofs.YtaoejgnfoecpfaaDoor
namespace Go.Proofs.YtaoejgnfoecpfaaDoor
set_option linter.unusedVariables false
set_option linter.unusedSimpArgs false
set_option linter.unusedSectionVars false
open Go Go.RowKit Go.Sort Go.Shelf

theorem lift_items : ∀ (xs : List Itm), (∀ x ∈ xs, x.path.size ≤ 1000000) → ∃ ps : List PIt, ps.map PIt.it = xs
  | [], _ => ⟨[], rfl⟩
  | x :: r, h => by
    obtain ⟨ps, hp⟩ := lift_items r fun y hy => h y (by simp [hy])
    exact ⟨⟨x, h x (by simp)⟩ :: ps, by rw [List.map_cons, hp]⟩
theorem get_itmsC : ∀ (xs : List Itm) (j : Nat), j < xs.length * 5 → ∃ x, xs[j / 5]? = some x ∧ (itmsC xs)[j]? = (itmC x)[j % 5]?
  | [], j, h => absurd h (by simp)
  | x :: r, j, h => by
    have e : itmsC (x :: r) = itmC x ++ itmsC r := rfl
    have hl : (itmC x).length = 5 := rfl
    by_cases h5 : j < 5
    · refine ⟨x, by rw [Nat.div_eq_of_lt h5]; rfl, ?_⟩
      rw [e, List.getElem?_append_left (by omega), Nat.mod_eq_of_lt h5]
    · obtain ⟨i, rfl⟩ : ∃ i, j = i + 5 := ⟨j - 5, by omega⟩
      rw [List.length_cons] at h
      obtain ⟨y, h1, h2⟩ := get_itmsC r i (by omega)
      refine ⟨y, ?_, ?_⟩
      · rw [show (i + 5) / 5 = i / 5 + 1 by omega, List.getElem?_cons_succ]
        exact h1
      · rw [e, List.getElem?_append_right (by omega), hl, Nat.add_sub_cancel, h2, Nat.add_mod_right]
theorem own_holds {w : World} {B g c : Nat} {xs : List Itm} {ps : List PIt} (hp : ps.map PIt.it = xs) (h : w.ownsRow B 59 5 (.slice (some ⟨g, 0, none⟩) xs.length c) xs.length (itmsC xs)) : HoldsK pitC 5 w g 0 ps.toArray := by
  intro j hj
  rw [size_flatK] at hj
  have hl : ps.length = xs.length := by rw [← hp, List.length_map]
  rw [List.size_toArray, hl] at hj
  rcases h.2 with ⟨hv, _⟩ | ⟨g', cap, cur, hv, _, hg, hc1, hc2, hc3, htake⟩
  · cases hv
  · simp only [Value.slice.injEq, Option.some.injEq, Addr.mk.injEq] at hv
    obtain ⟨⟨rfl, _⟩, _, rfl⟩ := hv
    refine ⟨?_, by simp [World.frozen?, hg]⟩
    have hcell : w.cell? ⟨g, 0 + j, none⟩ = cur[j]? := by
      rw [Nat.zero_add]
      exact cell_of_row w g j cur _ _ hg
    have h2 : (itmsC xs)[j]? = cur[j]? := by
      rw [← htake, List.getElem?_take, if_pos (by omega)]
      simp
    rw [hcell, ← h2]
    obtain ⟨x, hx, hx2⟩ := get_itmsC xs j hj
    have hd : j / 5 < ps.length := by omega
    have hpx : ps[j / 5].it = x := by
      rw [← hp, List.getElem?_map, List.getElem?_eq_getElem hd] at hx
      exact Option.some.inj hx
    rw [hx2, get_flatK _ _ _ _ (by rw [List.size_toArray, hl]; exact hj)]
    have e1 : ps.toArray[j / 5]! = ps[j / 5] := by
      rw [getElem!_pos ps.toArray (j / 5) (by simpa using hd)]
      simp
    rw [e1]
    unfold pitC
    rw [hpx]
    have h5 : j % 5 < (itmC x).length := Nat.mod_lt _ (by decide)
    rw [List.getElem?_eq_getElem h5, getElem!_pos (itmC x) (j % 5) h5]
    rfl
/-- in order -/
def SortedI (l : List Itm) : Prop := l.Pairwise fun x y => cmpL (partsP x.path) (partsP y.path) ≤ 0
def SortPost (xs : List Itm) (w : World) (e : Ending) (w' : World) : Prop :=
  ∃ A c ys, e = .returned (.slice A ys.length c) ∧ ItmA w' A ys ∧ ys.Perm xs ∧ SortedI ys ∧ ys.length = xs.length ∧ Below w.heap.size w w' ∧ ys.length ≤ c
theorem own_cap {w : World} {B n k c : Nat} {A : Option Addr} {t : TypeId} {xs : List Value} (h : w.ownsRow B t k (.slice A n c) n xs) : n ≤ c := by
  rcases h.2 with ⟨hv, hn⟩ | ⟨g, cap, cur, hv, _, _, hc, _⟩
  · omega
  · simp only [Value.slice.injEq] at hv
    omega
theorem holds_items {w : World} {g : Nat} {d : Array PIt} (h : HoldsK pitC 5 w g 0 d) (hg : g < w.heap.size) : ItmA w (some ⟨g, 0, none⟩) (d.toList.map PIt.it) := fun _ => by
  refine ⟨g, 0, rfl, hg, fun i x hi j u hj => ?_⟩
  rw [List.getElem?_map] at hi
  obtain ⟨p, hp, rfl⟩ := Option.map_eq_some_iff.1 hi
  have hid : i < d.size := by
    have := (List.getElem?_eq_some_iff.1 hp).1
    simpa using this
  have hj5 : j < 5 := (List.getElem?_eq_some_iff.1 hj).1
  rw [(HoldsK.cell h hid hj5).1]
  have e1 : d[i]! = p := by
    rw [getElem!_pos d i hid]
    rw [List.getElem?_eq_getElem (by simpa using hid)] at hp
    simpa using hp
  rw [e1]
  have h5 : j < (pitC p).length := hj5
  rw [getElem!_pos (pitC p) j h5]
  have : (itmC p.it)[j]? = some (pitC p)[j] := List.getElem?_eq_getElem h5
  rw [this] at hj
  exact hj
theorem sorted_items {d : Array PIt} (h : SortedIn (ltOf cfP) 0 d.size d) : SortedI (d.toList.map PIt.it) := by
  unfold SortedI
  rw [List.pairwise_iff_getElem]
  intro i j hi hj hij
  simp only [List.length_map, Array.length_toList] at hi hj
  have h1 := h i j (Nat.zero_le _) hij hj
  unfold ltOf cfP at h1
  rw [getElem!_pos d i hi, getElem!_pos d j hj] at h1
  simp only [decide_eq_false_iff_not] at h1
  have h2 := cmpL_turn (partsP d[i].it.path) (partsP d[j].it.path)
  simp only [List.getElem_map, Array.getElem_toList]
  omega
theorem permIn_all_list {d d' : Array PIt} (h : PermIn 0 d.size d d') : d'.toList.Perm d.toList := by
  have h2 := h.2.2
  have e : d'.extract 0 d.size = d' := by rw [← h.1]; exact Array.extract_size
  rw [e, Array.extract_size] at h2
  exact h2
set_option maxRecDepth 100000 in
set_option maxHeartbeats 1600000 in
theorem wsort_any (A : Option Addr) (c : Nat) (xs : List Itm) (w : World) (he : Env w) (hi : ItmA w A xs) (hp : ∀ x ∈ xs, x.path.size ≤ 1000000) (hn : xs.length * 56 ≤ 140737488355328) :
    Calls Tryd.prog 76 #[.slice A xs.length c] w (SortPost xs w) := by
  obtain ⟨ps, hps⟩ := lift_items xs hp
  have hpl : ps.length = xs.length := by rw [← hps, List.length_map]
  have hb1 := (Below.refl w.heap.size w).alloc (Nat.le_refl _) (.cells #[.slice A xs.length c] 49)
  have hcb : (w.alloc (.cells #[.slice A xs.length c] 49)).cell? ⟨w.heap.size, 0, none⟩ = some (.slice A xs.length c) := oneNew_cell w _ _
  -- Collect
  have h133 := callsIn_wide.1 (appseq_any w.heap.size A c xs _ hcb (hi.below hb1) hn)
  -- SortStableFunc, at what was collected
  have hsort : ∀ (A' : Option Addr) (c' : Nat) (w1 : World), w1.ownsRow (w.heap.size + 1) 59 5 (.slice A' xs.length c') xs.length (itmsC xs) → Env w1 → Below w.heap.size w w1 → Calls Tryd.prog 134 #[.slice A' xs.length c', .int .i64 xs.length, .func (.func 90) #[] #[]] w1 fun e w' => e = .returned (.tuple #[]) ∧ ∃ ys, ys.length = xs.length ∧ ItmA w' A' ys ∧ ys.Perm xs ∧ SortedI ys ∧ Below w.heap.size w w' := by
    intro A' c' w1 hown he1 hbw
    have hcase := hown.2
    rcases hcase with ⟨hv, h0⟩ | ⟨g, cap, cur, hv, hg0, hg, _⟩
    · simp only [Value.slice.injEq] at hv
      obtain ⟨rfl, h00, rfl⟩ := hv
      have hx : xs = [] := List.length_eq_zero_iff.1 h0
      subst hx
      refine (stable_none w1 _).mono fun e w' ⟨q1, q2⟩ => ?_
      subst q2
      exact ⟨q1, [], rfl, fun h => absurd h (by simp), List.Perm.refl _, List.Pairwise.nil, hbw⟩
    · simp only [Value.slice.injEq] at hv
      obtain ⟨rfl, _, rfl⟩ := hv
      have hH := own_holds hps hown
      have hglt : g < w1.heap.size := (Array.getElem?_eq_some_iff.1 hg).1
      have hst := stable_any g 0 c' ps.toArray w1 he1.1 (by omega) hH hglt (by rw [List.size_toArray, hpl]; omega)
      rw [List.size_toArray, hpl] at hst
      refine hst.mono ?_
      rintro e w' ⟨q1, d', ⟨q, os, rfl⟩, q3, q4⟩
      have hpz : ps.toArray.size = xs.length := by rw [List.size_toArray, hpl]
      have hd' : d'.size = xs.length := q3.1.trans hpz
      refine ⟨q1, d'.toList.map PIt.it, ?_, ?_, ?_, ?_, ?_⟩
      · rw [List.length_map, Array.length_toList]
        exact hd'
      · refine holds_items ?_ (Nat.lt_of_lt_of_le hglt (size_sortWorldK_c pitC 5 w1 g 0 q d' os))
        exact holdsK_sortWorldK_c pitC 5 w1 g 0 ps.toArray d' q os hH hglt (hd'.trans hpz.symm)
      · have := permIn_all_list (d := ps.toArray) (d' := d') (by rw [hpz]; exact q3)
        rw [← hps]
        exact this.map PIt.it
      · rw [← hd'] at q4
        exact sorted_items q4
      · exact hbw.trans ((sortW_below (B := w.heap.size) (by omega) hglt))
  have HB1 := Lib.hid hb1
  have HA := Lib.hid h133
  have HS := Lib.hid hsort
  have HE := Lib.hid he
  clear hb1 h133 hsort he hcb hps hpl hi hp
  have hcol : Calls Tryd.prog 120 #[.func (.func 122) #[] #[.pointer (some ⟨w.heap.size, 0, none⟩)]] (w.alloc (.cells #[.slice A xs.length c] 49)) fun e w' => ∃ A' c', e = .returned (.slice A' xs.length c') ∧ w'.ownsRow (w.heap.size + 1) 59 5 (.slice A' xs.length c') xs.length (itmsC xs) ∧ Below w.heap.size w w' := by
    go_enter Tryd.func120, Tryd.ntmps120
    go_wp2_with fail
    refine HA.out.mono ?_
    rintro e w1 ⟨A', c', rfl, h2, h3⟩
    rw [World.size_alloc] at h2 h3
    have H2 := Lib.hid h2
    have H3 := Lib.hid h3
    clear h2 h3
    go_wp2
    go_ret
    exact ⟨A', c', rfl, H2.out, HB1.out.trans (H3.out.mono (by omega))⟩
  have HC := Lib.hid hcol
  clear hcol
  have hss : ∀ (A' : Option Addr) (c' : Nat) (w1 : World), w1.ownsRow (w.heap.size + 1) 59 5 (.slice A' xs.length c') xs.length (itmsC xs) → Below w.heap.size w w1 → Calls Tryd.prog 121 #[.slice A' xs.length c', .func (.func 90) #[] #[]] w1 fun e w' => e = .returned (.tuple #[]) ∧ ∃ ys, ys.length = xs.length ∧ ItmA w' A' ys ∧ ys.Perm xs ∧ SortedI ys ∧ Below w.heap.size w w' := by
    intro A' c' w1 h2 h3
    have H2 := Lib.hid (HS.out A' c' w1 h2 (HE.out.below h3) h3)
    clear h2 h3
    go_enter Tryd.func121, Tryd.ntmps121
    go_wp2_with fail
    refine H2.out.mono ?_
    rintro e w2 ⟨rfl, h4⟩
    have H4 := Lib.hid h4
    clear h4
    go_wp2
    go_end0
    exact ⟨rfl, H4.out⟩
  have HSS := Lib.hid hss
  clear hss
  have hssf : Calls Tryd.prog 107 #[.func (.func 122) #[] #[.pointer (some ⟨w.heap.size, 0, none⟩)], .func (.func 90) #[] #[]] (w.alloc (.cells #[.slice A xs.length c] 49)) (SortPost xs w) := by
    go_enter Tryd.func107, Tryd.ntmps107
    go_wp2_with fail
    refine HC.out.mono ?_
    rintro e w1 ⟨A', c', rfl, h2, h3⟩
    have H5 := Lib.hid (HSS.out A' c' w1 h2 h3)
    have hcap := own_cap h2
    clear h2 h3
    go_wp2_with fail
    refine H5.out.mono ?_
    rintro e w2 ⟨rfl, ys, k1, k2, k3, k4, k5⟩
    have HK := Lib.hid (And.intro k1 (And.intro k2 (And.intro k3 (And.intro k4 k5))))
    clear k1 k2 k3 k4 k5
    go_wp2
    go_ret
    obtain ⟨k1, k2, k3, k4, k5⟩ := HK.out
    exact ⟨A', c', ys, by rw [k1]; rfl, k2, k3, k4, k1, k5, by omega⟩
  have HF := Lib.hid hssf
  clear hssf
  go_enter Tryd.func76, Tryd.ntmps76
  go_wp2_with fail
  refine (values_any A xs.length c w).mono ?_
  rintro e w1 ⟨rfl, rfl⟩
  go_wp2_with fail
  refine HF.out.mono ?_
  rintro e w2 ⟨A', c', ys, rfl, h2⟩
  have H2 := Lib.hid h2
  clear h2
  go_wp2
  go_ret
  exact ⟨A', c', ys, rfl, H2.out⟩
end Go.Proofs.YtaoejgnfoecpfaaDoor
