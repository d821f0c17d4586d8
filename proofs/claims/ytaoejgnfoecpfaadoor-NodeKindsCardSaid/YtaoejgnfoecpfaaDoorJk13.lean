/- A row of bytes that '[]byte(s)' made (its block bears a mark behind its end), and what is appended to it. A tree's nodes: the program's number and text; Encode. A tree's nodes: Encode. -/
import Derived.Test.YtaoejgnfoecpfaaDoorJk7
import Derived.Lib.FrozenHead
import Derived.Test.YtaoejgnfoecpfaaDoorJk12
import Derived.Test.YtaoejgnfoecpfaaDoorJk10
namespace Go.Proofs.YtaoejgnfoecpfaaDoor
set_option linter.unusedVariables false
set_option linter.unusedSimpArgs false
set_option linter.unusedSectionVars false
open Go.RowKit Go.Lib

/-- the call's own row of cells of one cell each; what of its block is frozen lies ahead of its end or behind its room -/
def ownsT (w : World) (base : Nat) (e : TypeId) (v : Value) (n : Nat) (xs : List Value) : Prop :=
  xs.length = n ∧
  ((v = .slice none 0 0 ∧ n = 0) ∨
   ∃ g cap cur fz, v = .slice (some ⟨g, 0, none⟩) n cap ∧ base ≤ g ∧ w.heap[g]? = some (.cells cur e fz) ∧ (fz.2 ≤ n ∨ cap ≤ fz.1) ∧ n ≤ cap ∧ cap ≤ maxLen ∧ cur.size = cap ∧ cur.toList.take n = xs)
section
variable {w : World} {base : Nat} {e : TypeId} {v : Value} {n : Nat} {xs : List Value}
theorem ownsT.lt (h : ownsT w base e v n xs) : ∀ k, v.ownBlock = some k → base ≤ k ∧ k < w.heap.size := by
  intro k hk
  rcases h.2 with ⟨rfl, _⟩ | ⟨g, cap, cur, fz, rfl, hb, hg, _⟩
  · simp [Value.ownBlock] at hk
  · simp [Value.ownBlock] at hk
    subst hk
    exact ⟨hb, (Array.getElem?_eq_some_iff.1 hg).1⟩
theorem ownsT.at_ {w' : World} (h : ownsT w base e v n xs) (he : ∀ k, v.ownBlock = some k → w'.heap[k]? = w.heap[k]?) : ownsT w' base e v n xs := by
  refine ⟨h.1, ?_⟩
  rcases h.2 with hn | ⟨g, cap, cur, fz, rfl, hb, hg, rest⟩
  · exact .inl hn
  · exact .inr ⟨g, cap, cur, fz, rfl, hb, (he g rfl).trans hg, rest⟩
theorem ownsT.below {w' : World} (h : ownsT w base e v n xs) (hb : Below w.heap.size w w') : ownsT w' base e v n xs := h.at_ fun k hk => hb.block k (h.lt k hk).2
theorem ownsT.cells (h : ownsT w base e v n xs) {g : Nat} (hg : v.ownBlock = some g) : ∀ j u, xs[j]? = some u → w.cell? ((⟨g, 0, none⟩ : Addr).add j) = some u := by
  intro j u hu
  rcases h.2 with ⟨rfl, _⟩ | ⟨g', cap, cur, fz, rfl, _, hgg, _, _, _, _, htake⟩
  · simp [Value.ownBlock] at hg
  · simp [Value.ownBlock] at hg
    subst hg
    have hadd : (⟨g', 0, none⟩ : Addr).add j = ⟨g', j, none⟩ := by unfold Addr.add; split <;> simp_all
    rw [hadd, cell_of_row w g' j cur e fz hgg]
    rw [← htake, List.getElem?_take] at hu
    split at hu
    · simpa using hu
    · cases hu
theorem ownsT.of (h : w.ownsRow base e 1 v n xs) : ownsT w base e v n xs := by
  refine ⟨by have := h.1; omega, ?_⟩
  rcases h.2 with hn | ⟨g, cap, cur, hv, hb, hg, h1, h2, h3, h4⟩
  · exact .inl hn
  · exact .inr ⟨g, cap, cur, (0, 0), hv, hb, hg, .inl (Nat.zero_le _), h1, h2, by rw [h3, Nat.mul_one], by rw [← h4, Nat.mul_one]⟩
end
theorem run_storeCells_atT (P : Program) (g o : Nat) (t : TypeId) (fz : Nat × Nat) : ∀ (vs : List Value) (i : Nat) (cur : Array Value) (w : World), w.heap[g]? = some (.cells cur t fz) → (fz.2 ≤ o + i ∨ cur.size ≤ fz.1) → o + i + vs.length ≤ cur.size → (∀ v ∈ vs, v.oneCell' = true) →
    (storeCells ⟨g, o, none⟩ vs i).run P w = .ok () (w.setRow g (cur.toList.take (o + i) ++ vs ++ cur.toList.drop (o + i + vs.length)).toArray)
  | [], i, cur, w, hg, _, _, _ => by
    simp only [storeCells, List.append_nil, List.length_nil, Nat.add_zero, List.take_append_drop, Array.toArray_toList]
    rw [setRow_self w g cur t fz hg]
    rfl
  | v :: rest, i, cur, w, hg, hfz, hl, h1 => by
    have hi : o + i < cur.size := by simp at hl; omega
    have hadd : (⟨g, o, none⟩ : Addr).add i = ⟨g, o + i, none⟩ := by unfold Addr.add; split <;> simp_all
    have hcell : w.cell? ⟨g, o + i, none⟩ = some cur[o + i] := by simp [World.cell?, hg, hi]
    have hfro : w.frozen? ⟨g, o + i, none⟩ = false := by
      obtain ⟨lo, hi'⟩ := fz
      simp only [World.frozen?, hg, Bool.and_eq_false_iff, decide_eq_false_iff_not]
      simp only at hfz
      omega
    have hst : (store ((⟨g, o, none⟩ : Addr).add i) v).run P w = .ok () (w.setRow g (cur.setIfInBounds (o + i) v)) := by
      rw [hadd, run_store P w _ v _ (h1 v (by simp)), hcell]
      simp [hfro, setCell_eq_setRow w g (o + i) cur t fz v hg]
    have ih := run_storeCells_atT P g o t fz rest (i + 1) (cur.setIfInBounds (o + i) v) (w.setRow g (cur.setIfInBounds (o + i) v)) (setRow_heap w g cur _ t _ hg) (by simp; omega) (by simp at hl ⊢; omega) (fun x hx => h1 x (by simp [hx]))
    simp only [storeCells, Sem.run_bind, hst, Result.andThen_ok, ih, setRow_setRow]
    congr 3
    have e := list_seg_step cur.toList (o + i) v rest (by simp at hl ⊢; omega)
    simpa [Array.toList_setIfInBounds, Nat.add_assoc] using e
section
variable {P : Program} {w : World}
/-- append(v, s...) of a text -/
theorem run_append_T (base : Nat) (t u ty e : TypeId) (i : TypeInfo) (ht : P.underlying t = some (.slice e)) (hu : P.underlying u = some .string) (hi : P.info? e = some i) (hz : i.zero = some (.int .u8 0))
    (hsize : i.size = 1) (hby : i.bytes = 1)
    (v : Value) (n : Nat) (xs : List Value) (hown : ownsT w base e v n xs) (s : ByteArray)
    (hbytes : n + s.size ≤ 140737488355328) (hbase : base ≤ w.heap.size) :
    ∃ v' w', (Builtin.append_ #[t, u] ty #[v, .string s]).run P w = .ok v' w' ∧ ownsT w' base e v' (n + s.size) (xs ++ strCells s) ∧ w.grownBy w' v.ownBlock := by
  have h63 : n + s.size ≤ maxLen := by unfold maxLen; omega
  rcases hown.2 with ⟨rfl, rfl⟩ | ⟨g, cap, cur, fz, rfl, hbg, hg, hfz, hnc, hcm, hcs, htake⟩
  · obtain ⟨v', w', h1, h2, h3, _⟩ := run_append_own_string (P := P) w base t u ty e i ht hu hi hz hsize hby (.slice none 0 0) 0 xs ⟨by rw [hown.1], .inl ⟨rfl, rfl⟩⟩ s h63 hbytes hbase
    exact ⟨v', w', h1, ownsT.of h2, h3⟩
  · have hsmall : n + s.size ≤ 9223372036854775807 := by omega
    have hxl : xs.length = n := hown.1
    have hlen : (xs ++ strCells s).length = n + s.size := by rw [List.length_append, hxl, strCells_length]
    by_cases hroom : n + s.size ≤ cap
    · have hf := run_firstCells_string (P := P) w 1 s
      have hst := run_storeCells_atT P g n e fz (strCells s) 0 cur w hg (by simp; omega) (by simp [strCells_length]; omega) (strCells_oneCell s)
      simp only [Nat.add_zero, strCells_length] at hst
      have hr : (Builtin.append_ #[t, u] ty #[.slice (some ⟨g, 0, none⟩) n cap, .string s]).run P w = .ok (.slice (some ⟨g, 0, none⟩) (n + s.size) cap) (w.setRow g (cur.toList.take n ++ strCells s ++ cur.toList.drop (n + s.size)).toArray) := by
        simp [Builtin.append_, run_underlying ht, run_underlying hu, sizeOf, typeInfo, hi, hsize, Builtin.lenOf, hroom, hf, Addr.add_lit, hst]
      refine ⟨_, _, hr, ⟨hlen, .inr ⟨g, cap, _, fz, rfl, hbg, setRow_heap w g cur _ e _ hg, by omega, hroom, hcm, ?_, ?_⟩⟩, ⟨rfl, rfl, rfl, by simp, fun k _ hk => setRow_other w g k _ (fun e => hk (by simp [Value.ownBlock, e]))⟩⟩
      · simp only [List.size_toArray, List.length_append, List.length_take, List.length_drop, Array.length_toList, strCells_length]
        omega
      · rw [htake, ← hlen]
        exact List.take_left
    · have holds : ∀ j u, xs[j]? = some u → w.cell? ((⟨g, 0, none⟩ : Addr).add j) = some u := hown.cells (g := g) rfl
      have hr := run_append_grow_string (P := P) w t u ty e i (.int .u8 0) ht hu hi hz ⟨g, 0, none⟩ n cap xs (by rw [hsize]; simpa using hxl) holds s (by omega) (by omega) (by rw [hby]; exact growslice_fits (by omega) (by omega))
      have hge := grownCap_ge w (n + s.size) cap e
      have hcm2 : grownCap w (n + s.size) cap e ≤ maxLen := grownCap_le_maxLen w (n + s.size) cap e h63
      refine ⟨_, _, hr, ⟨hlen, .inr ⟨w.heap.size, _, _, (0, 0), rfl, hbase, heap_alloc_new w.drew _, .inl (Nat.zero_le _), hge, hcm2, ?_, ?_⟩⟩, ⟨rfl, rfl, rfl, by simp, fun k hk _ => Below.heap_alloc w.drew _ k hk⟩⟩
      · have hz1 : (Value.int IntKind.u8 0).cells.size = 1 := rfl
        simp only [Array.size_append, List.size_toArray, size_zeroCells, hz1, hxl, strCells_length]
        omega
      · simp only [Array.toList_append, List.append_assoc]
        rw [← List.append_assoc, ← hlen]
        exact List.take_left
theorem wpList_appT {ops : Array Oper} {rest : List Oper} {o : Oper} {a : Act} {Q : Exit → Act → World → Prop} (hgd : o.guard = none) (sl x : Operand) (t u : TypeId)
    (ho : o.op = .call { callee := .builtin .append, args := #[sl, x], argTypes := #[t, u] })
    (base : Nat) (e : TypeId) (ht : P.underlying t = some (.slice e)) (hu : P.underlying u = some .string) (hinfo : (P.info? e).map (fun i => (i.zero, i.size, i.bytes)) = some (some (.int .u8 0), 1, 1))
    (v : Value) (n : Nat) (xs : List Value) (hs : a.eval sl = v) (hown : ownsT w base e v n xs) (s : ByteArray) (hx : a.eval x = .string s)
    (hbytes : n + s.size ≤ 140737488355328) (hbase : base ≤ w.heap.size)
    (h : ∀ v' w', ownsT w' base e v' (n + s.size) (xs ++ strCells s) → w.grownBy w' v.ownBlock → wpList P ops Q rest (a.put o.dst v') w') : wpList P ops Q (o :: rest) a w := by
  obtain ⟨i, hi, hz, hsz, hby⟩ := info_parts hinfo
  refine wpList_plain hgd fun K hK => ?_
  obtain ⟨v', w', hr, h2, h3⟩ := run_append_T (P := P) base t u o.type e i ht hu hi hz hsz hby v n xs hown s hbytes hbase
  unfold Oper.wp execOp
  simp only [ho, resolve, invoke, builtin, Sem.run_bind, Sem.run_pure, Result.andThen_ok, List.map_toArray, List.map_cons, List.map_nil, hs, hx, hr]
  exact hK _ _ (h v' w' h2 h3)
theorem step_appT {ops : Array Oper} {o : Oper} {a : Act} {K : Act → World → Prop} {Q : Exit → Act → World → Prop} {E : Prop} (hgd : o.guard = none) (sl x : Operand) (t u : TypeId)
    (ho : o.op = .call { callee := .builtin .append, args := #[sl, x], argTypes := #[t, u] })
    (base : Nat) (e : TypeId) (ht : P.underlying t = some (.slice e)) (hu : P.underlying u = some .string) (hinfo : (P.info? e).map (fun i => (i.zero, i.size, i.bytes)) = some (some (.int .u8 0), 1, 1))
    (v : Value) (n : Nat) (xs : List Value) (hs : a.eval sl = v) (hown : ownsT w base e v n xs) (s : ByteArray) (hx : a.eval x = .string s)
    (hbytes : n + s.size ≤ 140737488355328) (hbase : base ≤ w.heap.size)
    (h : ∀ v' w', ownsT w' base e v' (n + s.size) (xs ++ strCells s) → w.grownBy w' v.ownBlock → K (a.put o.dst v') w') :
    if Region.wanted o (yielded ops a.tmps) = true then Oper.wp P o a w K Q else E := by
  have hw : Region.wanted o (yielded ops a.tmps) = true := by simp [Region.wanted, hgd]
  rw [if_pos hw]
  obtain ⟨i, hi, hz, hsz, hby⟩ := info_parts hinfo
  obtain ⟨v', w', hr, h2, h3⟩ := run_append_T (P := P) base t u o.type e i ht hu hi hz hsz hby v n xs hown s hbytes hbase
  unfold Oper.wp execOp
  simp only [ho, resolve, invoke, builtin, Sem.run_bind, Sem.run_pure, Result.andThen_ok, List.map_toArray, List.map_cons, List.map_nil, hs, hx, hr]
  exact h v' w' h2 h3
/-- []byte(s) -/
theorem own_bytesT (w : World) (src dst e : TypeId) (s : ByteArray) (hs : P.underlying src = some .string) (hd : P.underlying dst = some (.slice e)) (he : P.underlying e = some (.int .u8)) (hz : s.size ≤ 140737488355328) :
    ∃ cap w1, (convert src dst (.string s)).run P w = .ok (.slice (some ⟨w.heap.size, 0, none⟩) s.size cap) w1 ∧ ownsT w1 w.heap.size e (.slice (some ⟨w.heap.size, 0, none⟩) s.size cap) s.size (strCells s) ∧ Below w.heap.size w w1 := by
  have hge := grownCap_ge w s.size 0 e
  have hcm := grownCap_le_maxLen w s.size 0 e (by unfold maxLen; omega)
  refine ⟨_, _, run_bytes_of_string w src dst e s hs hd he, ⟨strCells_length s, .inr ⟨w.heap.size, _, _, _, rfl, Nat.le_refl _, heap_alloc_new w.drew _, .inr ?_, hge, hcm, ?_, ?_⟩⟩, ((Below.refl _ w).drew).alloc (Nat.le_refl _) _⟩
  · unfold bytesRow
    simp only [Array.size_append, Array.size_map, Array.size_replicate]
    have : s.data.size = s.size := rfl
    omega
  · unfold bytesRow
    simp only [Array.size_append, Array.size_map, Array.size_replicate]
    have : s.data.size = s.size := rfl
    omega
  · unfold bytesRow strCells
    simp only [Array.toList_append, Array.toList_map]
    rw [List.take_append_of_le_length (by simp), List.take_of_length_le (by simp)]
/-- string(v) -/
theorem run_convert_T {base : Nat} {v : Value} {n : Nat} {l : List UInt8} (src dst e : TypeId) (hs : P.underlying src = some (.slice e)) (he : P.underlying e = some (.int .u8)) (hd : P.underlying dst = some .string)
    (hown : ownsT w base e v n (bytesV l)) : (convert src dst v).run P w = .ok (.string ⟨l.toArray⟩) w := by
  have hlen := hown.1
  rw [bytesV_len] at hlen
  rcases hown.2 with hv | ⟨g, cap, cur, fz, hv, _⟩
  · obtain ⟨rfl, rfl⟩ := hv
    have : l = [] := List.length_eq_zero_iff.1 hlen
    subst this
    exact run_convert_bytes_nil w src e hs he 0 0 dst hd
  · subst hv
    subst hlen
    exact run_convert_bytes_back w src dst e ⟨g, 0, none⟩ cap l hs he hd (fun j hj => hown.cells (g := g) rfl j _ (by simp [bytesV, List.getElem?_eq_getElem hj]))
end
theorem strCells_bytesV (s : ByteArray) : strCells s = bytesV s.data.toList := by
  unfold strCells bytesV
  rfl
end Go.Proofs.YtaoejgnfoecpfaaDoor
namespace Go.Proofs.YtaoejgnfoecpfaaDoor
set_option linter.unusedVariables false
set_option linter.unusedSimpArgs false
set_option linter.unusedSectionVars false
open Go.RowKit

theorem pnum12_any (n : Nat) (w : World) (hn : n ≤ 9223372036854775807) : Calls Tryd.prog 64 #[.int .i64 n] w fun e w' => e = .returned (.string ⟨(varL n).toArray⟩) ∧ Below w.heap.size w w' := by
  have H1 := Lib.hid fun W => var_any n W (by omega)
  have hu : IntKind.u64.wrap (n : Int) = (n : Int) := IntWalk.u64_in _ (by omega)
  clear hn
  go_enter Tryd.func64, Tryd.ntmps64
  go_wp2_with fail
  refine (H1.out _).mono ?_
  rintro e w1 ⟨rfl, hb⟩
  go_wp2
  go_ret
  exact ⟨rfl, hb⟩
theorem ptext12_any (s : ByteArray) (w : World) (hs : s.size ≤ 140737488355328) : Calls Tryd.prog 66 #[.string s] w fun e w' => e = .returned (.string (bs (textL s))) ∧ Below w.heap.size w w' := by
  have H1 := Lib.hid fun W => var_any s.size W (by omega)
  have hv := varB_size s.size
  have HE := Lib.hid (show (⟨(varL s.size).toArray⟩ : ByteArray) ++ s = bs (textL s) from bs_appS _ _)
  have hu : IntKind.u64.wrap (s.size : Int) = (s.size : Int) := IntWalk.u64_in _ (by omega)
  generalize (⟨(varL s.size).toArray⟩ : ByteArray) = v at *
  have y1 := fun W => run_string_add_sum (P := Tryd.prog) W v s (by omega)
  go_enter Tryd.func66, Tryd.ntmps66
  go_wp2_with fail
  refine (H1.out _).mono ?_
  rintro e w1 ⟨rfl, hb⟩
  go_wp2
  go_ret
  exact ⟨ret_str HE.out, hb⟩
/-- a number's text, a text's -/
theorem pvar (n : Nat) (hn : n ≤ 9223372036854775807) : ∃ v : ByteArray, v.data.toList = varL n ∧ v.size ≤ 11 ∧ ∀ W, Calls Tryd.prog 64 #[.int .i64 n] W fun e w' => e = .returned (.string v) ∧ Below W.heap.size W w' :=
  ⟨⟨(varL n).toArray⟩, by simp, varB_size n, fun W => pnum12_any n W hn⟩
theorem ptxt (s : ByteArray) (hs : s.size ≤ 200) : ∃ v : ByteArray, v.data.toList = textL s ∧ v.size ≤ 211 ∧ ∀ W, Calls Tryd.prog 66 #[.string s] W fun e w' => e = .returned (.string v) ∧ Below W.heap.size W w' := by
  refine ⟨bs (textL s), bs_list _, ?_, fun W => ptext12_any s W (by omega)⟩
  have := varB_size s.size
  have h2 : (varL s.size).length ≤ 11 := this
  rw [bs_size]
  unfold textL
  rw [List.length_append, ba_len]
  omega
end Go.Proofs.YtaoejgnfoecpfaaDoor
namespace Go.Proofs.YtaoejgnfoecpfaaDoor
set_option linter.unusedVariables false
set_option linter.unusedSimpArgs false
set_option linter.unusedSectionVars false
open Go.RowKit Go.Lib

theorem infoU8 : (Tryd.prog.info? 5).map (fun i => (i.zero, i.size, i.bytes)) = some (some (.int .u8 0), 1, 1) := by kernel_rfl
def encS (l : List Nr) : ByteArray := if chkN l = 0 then bs (encN l) else noB
/-- a row of bytes, its value hidden -/
theorem ownsT.app {w : World} {B : Nat} {v : Value} {n : Nat} {l : List UInt8} {s : ByteArray} (h : ownsT w B 5 v (n + s.size) (bytesV l ++ strCells s)) (hl : n = l.length) : ownsT w B 5 v (l ++ s.data.toList).length (bytesV (l ++ s.data.toList)) := by
  have e : n + s.size = (l ++ s.data.toList).length := by rw [List.length_append, ba_len, hl]
  rw [e, strCells_bytesV, ← bytesV_app] at h
  exact h
set_option maxRecDepth 100000 in
set_option maxHeartbeats 12800000 in
theorem nencode_any (l : List Nr) (A : Option Addr) (c : Nat) (w : World) (he : Env w) (hn : NodesA w A l) (hb : ∀ x ∈ l, NrB x) (hl : l.length ≤ 9223372036854775807) :
    Calls Tryd.prog 17 #[.slice A l.length c] w fun e w' => e = .returned (.tuple #[.string (encS l), .int .i64 (chkN l : Nat)]) ∧ Below w.heap.size w w' := by
  have HN := Lib.hid fun W (hb : Below w.heap.size w W) => hn.below hb
  have HCK := Lib.hid (ncheck_any l A c w he hn hb hl)
  by_cases hc : chkN l = 0
  · obtain ⟨hl2, hfit⟩ := chk_fit hc
    have HF := Lib.hid hfit
    have HX := Lib.hid (show encS l = bs (encN l) from if_pos hc)
    obtain ⟨v0, e0, s0, H0⟩ := pvar l.length (by omega)
    have HV0 := Lib.hid H0
    have HE0 := Lib.hid e0
    rw [hc] at HCK
    rw [hc]
    clear hn hb he hfit hc H0 e0
    have m1 := mFol
    have m2 := mPla
    have m3 := mSym
    have tfp := taFP
    have tfs := taFS
    have tpp := taPP
    have tps := taPS
    have tsp := taSP
    have tss := taSS
    unfold zPla at tfp tsp
    unfold zSym at tfs tps
    go_enter Tryd.func17, Tryd.ntmps17
    go_wp2_with fail
    refine HCK.out.mono ?_
    rintro e w1 ⟨rfl, hb1⟩
    have HB1 := Lib.hid hb1
    clear hb1
    go_wp2_with fail
    refine (HV0.out _).mono ?_
    rintro e w2 ⟨rfl, hb2⟩
    have hbw2 := HB1.out.trans (hb2.mono HB1.out.size)
    obtain ⟨cap, w3, hcv, how, hb3⟩ := own_bytesT (P := Tryd.prog) w2 9 46 5 v0 Tryd.underlying9 Tryd.underlying46 Tryd.underlying5 (by omega)
    have hbw3 := hbw2.trans (hb3.mono hbw2.size)
    have how2 : ownsT w3 w.heap.size 5 (.slice (some ⟨w2.heap.size, 0, none⟩) v0.size cap) v0.data.toList.length (bytesV v0.data.toList) := by
      rw [strCells_bytesV] at how
      rw [ba_len]
      obtain ⟨q1, q2⟩ := how
      refine ⟨q1, q2.imp id ?_⟩
      rintro ⟨g, cp, cur, fz, r1, r2, r3⟩
      exact ⟨g, cp, cur, fz, r1, Nat.le_trans hbw2.size r2, r3⟩
    have HB3 := Lib.hid hbw3
    have HOW := Lib.hid how2
    clear hb2 hb3 hbw2 hbw3 how how2
    go_wp2
    go_loopw [5, 27] (fun ov i wr => ∃ (k : Nat) (acc : List UInt8) (v : Value), ov = v ∧ i = .int .i64 (k : Nat) ∧ k ≤ l.length ∧ ownsT wr w.heap.size 5 v acc.length (bytesV acc) ∧ acc = varL l.length ++ bodyN (l.take k) ∧ acc.length ≤ 11 + 2000000 * k ∧ Below w.heap.size w wr) (fun _ i _ => l.length - (Go.RowKit.intOf i).toNat)
    case atStart => exact ⟨0, v0.data.toList, _, rfl, rfl, Nat.zero_le _, HOW.out, by rw [HE0.out]; simp [bodyN], by rw [ba_len]; omega, HB3.out⟩
    case round =>
      obtain ⟨k, acc, v, rfl, rfl, hk, how, hac, haz, hbel⟩ := hrel
      have HBL := Lib.hid hbel
      have HAC := Lib.hid hac
      have HO := Lib.hid how
      clear hac how HOW HB3 hcv
      by_cases hkl : k < l.length
      · obtain ⟨g, o, rfl, hg, hcc⟩ := HN.out w (Below.refl _ _) (by omega)
        obtain ⟨u, hcu0, hiu⟩ := hcc k l[k] (List.getElem?_eq_getElem hkl)
        have hcu := (hbel.cell (p := ⟨g, o + k, none⟩) hg).trans hcu0
        clear hcu0
        have hfx0 := HF.out _ (List.getElem_mem hkl)
        have HSN := Lib.hid (body_snoc l k hkl)
        clear hcc hbel
        generalize l[k] = x at *
        have HKI := Lib.hid fun W (h : NodeIs W u x) => kind_any u x W h
        obtain ⟨hkx, _, _⟩ := fit_parts hfx0
        have HFA := Lib.hid fun W (h : NodeIs W u x) => facts_any u x W h hkx
        unfold FactsPost at HFA
        have hkr := (kindR_ok hkx).1
        rw [hkr] at HKI
        obtain ⟨kind, a, mode, time, size, chunks, target⟩ := x
        obtain ⟨kk, m, t, hkd, hkk, hmd, hm, htd, ht, ha, h2, h3⟩ := fit_nums hfx0
        simp only at hkd hmd htd ha h2 h3 HKI HFA
        subst hkd
        subst hmd
        subst htd
        clear hfx0 hkr hkx
        have hkb : kk ≤ 3 := by rcases hkk with h | h | h <;> rw [h] <;> decide
        obtain ⟨v1, e1, s1, H1⟩ := pvar kk (Nat.le_trans hkb (by decide))
        obtain ⟨v2, e2, s2, H2⟩ := ptxt a ha
        obtain ⟨v3, e3, s3, H3⟩ := pvar m (Nat.le_trans hm (by decide))
        obtain ⟨v4, e4, s4, H4⟩ := pvar t (Nat.le_trans ht (by decide))
        have HV1 := Lib.hid H1
        have HV2 := Lib.hid H2
        have HV3 := Lib.hid H3
        have HV4 := Lib.hid H4
        have HEX := Lib.hid (show txtN ⟨(kk : Int), a, (m : Int), (t : Int), size, chunks, target⟩ = (v1 ++ v2 ++ v3 ++ v4).data.toList ++ tailN ⟨(kk : Int), a, (m : Int), (t : Int), size, chunks, target⟩ by
          unfold txtN
          simp only [ByteArray.data_append, Array.toList_append, e1, e2, e3, e4, Int.toNat_natCast, List.append_assoc])
        have hzz : (v1 ++ v2 ++ v3 ++ v4).size ≤ 300 := by simp only [ByteArray.size_append]; omega
        clear H1 H2 H3 H4 e1 e2 e3 e4
        have hk0 : (0 : Int) ≤ (k : Int) := by omega
        have hki : (k : Int) < (l.length : Int) := by omega
        have hk3 : ((k : Int)).toNat = k := by omega
        have HH2 := Lib.hid h2
        have HH3 := Lib.hid h3
        have HZZ := Lib.hid hzz
        have y1 := fun W => run_string_add_sum (P := Tryd.prog) W v1 v2 (by omega)
        have y2 := fun W => run_string_add_sum (P := Tryd.prog) W (v1 ++ v2) v3 (by simp only [ByteArray.size_append]; omega)
        have y3 := fun W => run_string_add_sum (P := Tryd.prog) W (v1 ++ v2 ++ v3) v4 (by simp only [ByteArray.size_append]; omega)
        have HIU := Lib.hid fun W (hb : Below w.heap.size w W) => hiu.below hb
        have hll := hl2
        clear h2 h3
        rcases hiu with ⟨hq, hu⟩ | ⟨hq, X, cx, hu, hsx, hnx⟩ | ⟨hq, hu⟩ | ⟨hq, _⟩
        · unfold folV at hu
          subst hu
          have hkq : kk = 1 := by simp only at hq; omega
          subst hkq
          go_wp2_with fail
          refine (HFA.out _ (HIU.out _ HBL.out)).mono ?_
          rintro e wa ⟨rfl, hba⟩
          have HWA := Lib.hid hba
          clear hba
          go_wp2_with fail
          refine (HKI.out _ (HIU.out _ (HBL.out.trans (HWA.out.mono HBL.out.size)))).mono ?_
          rintro e wb ⟨rfl, rfl⟩
          go_wp2_with fail
          refine (HV1.out _).mono ?_
          rintro e wb ⟨rfl, hbb⟩
          have HWB := Lib.hid (HWA.out.trans (hbb.mono HWA.out.size))
          clear hbb
          go_wp2_with fail
          refine (pathF _ _ _ _).mono ?_
          rintro e wc ⟨rfl, hbc⟩
          have HWC := Lib.hid (HWB.out.trans (hbc.mono HWB.out.size))
          clear hbc
          go_wp2_with fail
          refine (HV2.out _).mono ?_
          rintro e wd ⟨rfl, hbd⟩
          have HWD := Lib.hid (HWC.out.trans (hbd.mono HWC.out.size))
          clear hbd
          go_wp2_with fail
          refine (HV3.out _).mono ?_
          rintro e we ⟨rfl, hbe⟩
          have HWE := Lib.hid (HWD.out.trans (hbe.mono HWD.out.size))
          clear hbe
          go_wp2_with fail
          refine (HV4.out _).mono ?_
          rintro e wf ⟨rfl, hbf⟩
          have HWF := Lib.hid (HWE.out.trans (hbf.mono HWE.out.size))
          have HBF := Lib.hid (HBL.out.trans (HWF.out.mono HBL.out.size))
          have HOF := Lib.hid (HO.out.below HWF.out)
          clear hbf HWA HWB HWC HWD HWE
          generalize v1 ++ v2 ++ v3 ++ v4 = hd at *
          go_wp2_with (at_builtin; refine wpList_appT rfl _ _ 46 9 rfl w.heap.size 5 Tryd.underlying46 Tryd.underlying9 infoU8 _ acc.length (bytesV acc) rfl HOF.out hd rfl (by have := HZZ.out; omega) HBF.out.size ?_; intro vg wg howg hgg; have HOG := Lib.hid (howg.app rfl); have HBG := Lib.hid (HBF.out.grown hgg HBF.out.size fun j hj => (HOF.out.lt j hj).1); clear howg hgg)
          have HT := Lib.hid HEX.out
          rw [tailN_1 rfl, List.append_nil] at HT
          have ho2 := HOG.out.below ((((Below.refl _ wg).alloc (Nat.le_refl _) (.cells #[.string ⟨#[]⟩, .int .i64 0, .int .i64 0, .int .i64 0, .slice none 0 0] 75)).alloc (by simp) (.cells #[.string ⟨#[]⟩, .int .i64 0, .int .i64 0, .string ⟨#[]⟩] 103)))
          have hb2 := (HBG.out.alloc HBG.out.size (.cells #[.string ⟨#[]⟩, .int .i64 0, .int .i64 0, .int .i64 0, .slice none 0 0] 75))
          have hb3 := hb2.alloc hb2.size (.cells #[.string ⟨#[]⟩, .int .i64 0, .int .i64 0, .string ⟨#[]⟩] 103)
          go_roundw
          case rel => exact ⟨k + 1, acc ++ hd.data.toList, vg, rfl, by go_num, by omega, ho2, by rw [HSN.out, HT.out, HAC.out, List.append_assoc], by have := HZZ.out; rw [List.length_append, ba_len]; omega, hb3⟩
          case measure => simp [Go.RowKit.intOf]; omega
        · unfold plaV at hu
          subst hu
          have hkq : kk = 2 := by simp only at hq; omega
          subst hkq
          go_wp2_with fail
          refine (HFA.out _ (HIU.out _ HBL.out)).mono ?_
          rintro e wa ⟨rfl, hba⟩
          have HWA := Lib.hid hba
          clear hba
          go_wp2_with fail
          refine (HKI.out _ (HIU.out _ (HBL.out.trans (HWA.out.mono HBL.out.size)))).mono ?_
          rintro e wb ⟨rfl, rfl⟩
          go_wp2_with fail
          refine (HV1.out _).mono ?_
          rintro e wb ⟨rfl, hbb⟩
          have HWB := Lib.hid (HWA.out.trans (hbb.mono HWA.out.size))
          clear hbb
          go_wp2_with fail
          refine (pathP _ _ _ _ _ _ _ _).mono ?_
          rintro e wc ⟨rfl, hbc⟩
          have HWC := Lib.hid (HWB.out.trans (hbc.mono HWB.out.size))
          clear hbc
          go_wp2_with fail
          refine (HV2.out _).mono ?_
          rintro e wd ⟨rfl, hbd⟩
          have HWD := Lib.hid (HWC.out.trans (hbd.mono HWC.out.size))
          clear hbd
          go_wp2_with fail
          refine (HV3.out _).mono ?_
          rintro e we ⟨rfl, hbe⟩
          have HWE := Lib.hid (HWD.out.trans (hbe.mono HWD.out.size))
          clear hbe
          go_wp2_with fail
          refine (HV4.out _).mono ?_
          rintro e wf ⟨rfl, hbf⟩
          have HWF := Lib.hid (HWE.out.trans (hbf.mono HWE.out.size))
          have HBF := Lib.hid (HBL.out.trans (HWF.out.mono HBL.out.size))
          have HOF := Lib.hid (HO.out.below HWF.out)
          clear hbf HWA HWB HWC HWD HWE
          generalize v1 ++ v2 ++ v3 ++ v4 = hd at *
          go_wp2_with (at_builtin; refine wpList_appT rfl _ _ 46 9 rfl w.heap.size 5 Tryd.underlying46 Tryd.underlying9 infoU8 _ acc.length (bytesV acc) rfl HOF.out hd rfl (by have := HZZ.out; omega) HBF.out.size ?_; intro vg wg howg hgg; have HOG := Lib.hid (howg.app rfl); have HBG := Lib.hid (HBF.out.grown hgg HBF.out.size fun j hj => (HOF.out.lt j hj).1); clear howg hgg)
          obtain ⟨z, hzd, hz, hcz, h32⟩ := HH2.out (by trivial)
          subst hzd
          have HT := Lib.hid HEX.out
          rw [tailN_2 rfl] at HT
          have H32 := Lib.hid h32
          have HCZ := Lib.hid (And.intro hz hcz)
          obtain ⟨v5, e5, s5, H5⟩ := pvar z (Nat.le_trans hz (by decide))
          obtain ⟨v6, e6, s6, H6⟩ := pvar chunks.length (Nat.le_trans (Nat.le_trans hcz hz) (by decide))
          have HV5 := Lib.hid H5
          have HV6 := Lib.hid H6
          have z1 := fun W => run_string_add_sum (P := Tryd.prog) W v5 v6 (by omega)
          have HE56 := Lib.hid (show (v5 ++ v6).data.toList = varL z ++ varL chunks.length by rw [ByteArray.data_append, Array.toList_append, e5, e6])
          have hz56 : (v5 ++ v6).size ≤ 22 := by rw [ByteArray.size_append]; omega
          have HZ56 := Lib.hid hz56
          have HST := Lib.hid fun W (hb : Below w.heap.size w W) => StrsA.below hsx hb
          clear H5 H6 e5 e6 h32 HH2 HH3 hq
          have hgh := (Below.refl wg.heap.size wg).alloc (Nat.le_refl _) (.cells #[.string a, .int .i64 m, .int .i64 t, .int .i64 z, .slice X chunks.length cx] 75)
          have HKH := Lib.hid (Blk.new wg 75 #[.string a, .int .i64 m, .int .i64 t, .int .i64 z, .slice X chunks.length cx])
          have HOH := Lib.hid (HOG.out.below hgh)
          have HBH := Lib.hid (HBG.out.trans (hgh.mono HBG.out.size))
          have hvgne : ∀ j, vg.ownBlock = some j → j < wg.heap.size := fun j hj => (HOG.out.lt j hj).2
          clear hgh HOG HBG
          generalize wg.alloc (.cells #[.string a, .int .i64 m, .int .i64 t, .int .i64 z, .slice X chunks.length cx] 75) = wh at *
          have d3 : wh.cell? ⟨wg.heap.size, 3, none⟩ = some (.int .i64 z) := HKH.out.cell 3
          have d4 : wh.cell? ⟨wg.heap.size, 4, none⟩ = some (.slice X chunks.length cx) := HKH.out.cell 4
          have HNE := Lib.hid hvgne
          clear hvgne m2 tpp m1 m3 tfp tfs tsp tss
          clear y1 y2 y3 HFA HKI HIU HV1 HV2 HV3 HV4
          go_region_law (first
            | (go_simp; go_at_call 64; (with_reducible refine (HV5.out _).mono ?_); rintro e w8 ⟨rfl, hb8⟩; have hk8 := (Blk.drew HKH.out).below hb8 (Blk.drew HKH.out).lt; have d34 : w8.cell? ⟨wg.heap.size, 4, none⟩ = some (.slice X chunks.length cx) := hk8.cell 4; have hbz8 := ((Below.refl _ wh).drew).trans hb8)
            | (go_simp; go_at_call 64; (with_reducible refine (HV6.out _).mono ?_); rintro e w9 ⟨rfl, hb9⟩; have hbz9 := hbz8.trans (hb9.mono hbz8.size))
            | (refine step_appT (by rfl) _ _ 46 9 (by rfl) w.heap.size 5 Tryd.underlying46 Tryd.underlying9 infoU8 vg (acc ++ hd.data.toList).length (bytesV (acc ++ hd.data.toList)) (by rfl) (HOH.out.below hbz9) (v5 ++ v6) (by rfl) (by have := HZ56.out; have := HZZ.out; rw [List.length_append, ba_len]; omega) (Nat.le_trans HBH.out.size hbz9.size) ?_; intro vk wk howk hgk))
          all_goals
            have HGK := Lib.hid (howk.app rfl)
            have HBK := Lib.hid ((HBH.out.trans (hbz9.mono HBH.out.size)).grown hgk (Nat.le_trans HBH.out.size hbz9.size) (fun j hj => (HOH.out.lt j hj).1))
            have hkk9 := (HKH.out.below hbz9 HKH.out.lt).grown hgk (fun e => by have := HNE.out _ e.symm; omega)
            have d35 : wk.cell? ⟨wg.heap.size, 4, none⟩ = some (.slice X chunks.length cx) := hkk9.cell 4
            have hac2 : acc ++ hd.data.toList ++ (v5 ++ v6).data.toList = varL l.length ++ bodyN (l.take k) ++ hd.data.toList ++ (varL z ++ varL chunks.length) := by rw [HAC.out, HE56.out]
            have haz2 : (acc ++ hd.data.toList ++ (v5 ++ v6).data.toList).length ≤ 333 + 2000000 * k := by
              have := HZ56.out
              have := HZZ.out
              rw [List.length_append, List.length_append, ba_len, ba_len]
              omega
            have HAC2 := Lib.hid hac2
            clear howk hgk hkk9 hac2 d3 d4 z1 HOH HKH HBH HNE HO HV5 HV6
            generalize acc ++ hd.data.toList ++ (v5 ++ v6).data.toList = ac2 at *
            go_wp2
            go_loopw [5, 13, 70] (fun ov cv i wr => ∃ (j : Nat) (ac : List UInt8) (v u : Value), ov = v ∧ cv = u ∧ i = .int .i64 (j : Nat) ∧ j ≤ chunks.length ∧ ownsT wr w.heap.size 5 v ac.length (bytesV ac) ∧ ac = varL l.length ++ bodyN (l.take k) ++ hd.data.toList ++ (varL z ++ varL chunks.length) ++ catN (chunks.take j) ∧ ac.length ≤ 333 + 2000000 * k + 32 * j ∧ Below w.heap.size w wr) (fun _ _ i _ => chunks.length - (Go.RowKit.intOf i).toNat)
            case atStart => exact ⟨0, ac2, vk, _, rfl, rfl, rfl, Nat.zero_le _, HGK.out, by rw [HAC2.out]; simp [catN], by omega, HBK.out⟩
            case round =>
              obtain ⟨j, ac, v, u, rfl, rfl, rfl, hj, how, haj, hjz, hbel⟩ := hrel
              have HO := Lib.hid how
              have HAJ := Lib.hid haj
              have HBJ := Lib.hid hbel
              clear how haj HGK HBK HAC2
              by_cases hjl : j < chunks.length
              · obtain ⟨bk, ok, rfl, hbk, hcc⟩ := HST.out _ hbel (by show 0 < chunks.length; omega)
                have hck := hcc j chunks[j] (List.getElem?_eq_getElem hjl)
                have HCS := Lib.hid (catN_snoc chunks j hjl)
                have hcz := H32.out chunks[j] (List.getElem_mem hjl)
                have hcz2 := HCZ.out
                clear hcc hbel
                generalize chunks[j] = ch at *
                go_wp2_with (at_builtin; refine wpList_appT rfl _ _ 46 9 rfl w.heap.size 5 Tryd.underlying46 Tryd.underlying9 infoU8 _ ac.length (bytesV ac) rfl HO.out ch rfl (by omega) HBJ.out.size ?_; intro vn wn hown hgn; have HON := Lib.hid (hown.app rfl); have HBN := Lib.hid (HBJ.out.grown hgn HBJ.out.size fun j hj => (HO.out.lt j hj).1); clear hown hgn)
                go_roundw
                case rel => exact ⟨j + 1, ac ++ ch.data.toList, vn, _, rfl, rfl, by go_num, by omega, HON.out, by rw [HCS.out, HAJ.out]; simp only [List.append_assoc], by rw [List.length_append, ba_len]; omega, HBN.out⟩
                case measure => simp [Go.RowKit.intOf]; omega
              · have hje : j = chunks.length := by omega
                have hcz2 := HCZ.out
                have HJ := Lib.hid (show ac = varL l.length ++ bodyN (l.take (k + 1)) by
                  rw [HSN.out, HT.out, HAJ.out, hje, List.take_length]
                  simp only [List.append_assoc, Int.toNat_natCast])
                clear hje hbel
                obtain ⟨wj, rfl⟩ : ∃ wj : World, wj = wr := ⟨_, rfl⟩
                have ho2 := HO.out.below ((Below.refl _ wj).alloc (Nat.le_refl _) (.cells #[.string ⟨#[]⟩, .int .i64 0, .int .i64 0, .string ⟨#[]⟩] 103))
                have hb2 := HBJ.out.alloc HBJ.out.size (.cells #[.string ⟨#[]⟩, .int .i64 0, .int .i64 0, .string ⟨#[]⟩] 103)
                go_wp2
                go_roundw
                case rel => exact ⟨k + 1, ac, _, rfl, by go_num, by omega, ho2, HJ.out, by omega, hb2⟩
                case measure => simp [Go.RowKit.intOf]; omega
        · unfold symV at hu
          subst hu
          have hkq : kk = 3 := by simp only at hq; omega
          subst hkq
          go_wp2_with fail
          refine (HFA.out _ (HIU.out _ HBL.out)).mono ?_
          rintro e wa ⟨rfl, hba⟩
          have HWA := Lib.hid hba
          clear hba
          go_wp2_with fail
          refine (HKI.out _ (HIU.out _ (HBL.out.trans (HWA.out.mono HBL.out.size)))).mono ?_
          rintro e wb ⟨rfl, rfl⟩
          go_wp2_with fail
          refine (HV1.out _).mono ?_
          rintro e wb ⟨rfl, hbb⟩
          have HWB := Lib.hid (HWA.out.trans (hbb.mono HWA.out.size))
          clear hbb
          go_wp2_with fail
          refine (pathS _ _ _ _ _).mono ?_
          rintro e wc ⟨rfl, hbc⟩
          have HWC := Lib.hid (HWB.out.trans (hbc.mono HWB.out.size))
          clear hbc
          go_wp2_with fail
          refine (HV2.out _).mono ?_
          rintro e wd ⟨rfl, hbd⟩
          have HWD := Lib.hid (HWC.out.trans (hbd.mono HWC.out.size))
          clear hbd
          go_wp2_with fail
          refine (HV3.out _).mono ?_
          rintro e we ⟨rfl, hbe⟩
          have HWE := Lib.hid (HWD.out.trans (hbe.mono HWD.out.size))
          clear hbe
          go_wp2_with fail
          refine (HV4.out _).mono ?_
          rintro e wf ⟨rfl, hbf⟩
          have HWF := Lib.hid (HWE.out.trans (hbf.mono HWE.out.size))
          have HBF := Lib.hid (HBL.out.trans (HWF.out.mono HBL.out.size))
          have HOF := Lib.hid (HO.out.below HWF.out)
          clear hbf HWA HWB HWC HWD HWE
          generalize v1 ++ v2 ++ v3 ++ v4 = hd at *
          go_wp2_with (at_builtin; refine wpList_appT rfl _ _ 46 9 rfl w.heap.size 5 Tryd.underlying46 Tryd.underlying9 infoU8 _ acc.length (bytesV acc) rfl HOF.out hd rfl (by have := HZZ.out; omega) HBF.out.size ?_; intro vg wg howg hgg; have HOG := Lib.hid (howg.app rfl); have HBG := Lib.hid (HBF.out.grown hgg HBF.out.size fun j hj => (HOF.out.lt j hj).1); clear howg hgg)
          have htg := HH3.out (by trivial)
          have HT := Lib.hid HEX.out
          rw [tailN_3 rfl] at HT
          obtain ⟨v5, e5, s5, H5⟩ := ptxt target htg
          clear HH2 HH3 hq
          refine (H5 _).mono ?_
          rintro e wm ⟨rfl, hbm⟩
          have hal := ((Below.refl wg.heap.size wg).alloc (Nat.le_refl _) (.cells #[.string ⟨#[]⟩, .int .i64 0, .int .i64 0, .int .i64 0, .slice none 0 0] 75)).alloc (by simp) (.cells #[.string a, .int .i64 m, .int .i64 t, .string target] 103)
          have halm := hal.trans (hbm.mono hal.size)
          have HBM := Lib.hid (HBG.out.trans (halm.mono HBG.out.size))
          have HOM := Lib.hid (HOG.out.below halm)
          have HS5 := Lib.hid s5
          clear hal hbm halm
          go_wp2_with (at_builtin; refine wpList_appT rfl _ _ 46 9 rfl w.heap.size 5 Tryd.underlying46 Tryd.underlying9 infoU8 _ (acc ++ hd.data.toList).length (bytesV (acc ++ hd.data.toList)) rfl HOM.out v5 rfl (by have := HS5.out; have := HZZ.out; rw [List.length_append, ba_len]; omega) HBM.out.size ?_; intro vn wn hown hgn; have HON := Lib.hid (hown.app rfl); have HBN := Lib.hid (HBM.out.grown hgn HBM.out.size fun j hj => (HOM.out.lt j hj).1); clear hown hgn)
          go_roundw
          case rel => exact ⟨k + 1, acc ++ hd.data.toList ++ v5.data.toList, vn, rfl, by go_num, by omega, HON.out, by rw [HSN.out, HT.out, HAC.out, e5]; simp only [List.append_assoc], by have := HS5.out; have := HZZ.out; rw [List.length_append, List.length_append, ba_len, ba_len]; omega, HBN.out⟩
          case measure => simp [Go.RowKit.intOf]; omega
        · exact absurd hq (by rw [kindOk_of (by simp only; omega)]; simp)
      · obtain rfl : k = l.length := by omega
        have HJ := Lib.hid (show bs acc = bs (encN l) by rw [HAC.out, List.take_length]; rfl)
        have hcv := run_convert_T (P := Tryd.prog) 46 9 5 Tryd.underlying46 Tryd.underlying5 Tryd.underlying9 HO.out
        go_wp2
        go_ret2
        rw [HX.out, ← HJ.out]
        exact ⟨rfl, HBL.out⟩
  · have HX := Lib.hid (show encS l = noB from if_neg hc)
    have hne : (((chkN l : Nat) : Int) != 0) = true := by rw [bne_iff_ne]; omega
    clear hn hb he hc
    go_enter Tryd.func17, Tryd.ntmps17
    go_wp2_with fail
    refine HCK.out.mono ?_
    rintro e w1 ⟨rfl, hb1⟩
    go_wp2
    go_ret2
    rw [HX.out]
    exact ⟨rfl, hb1⟩
end Go.Proofs.YtaoejgnfoecpfaaDoor
