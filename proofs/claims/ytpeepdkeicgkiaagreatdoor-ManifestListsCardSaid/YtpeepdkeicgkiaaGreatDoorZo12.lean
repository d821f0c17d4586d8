/- A slice that is built of whole rows. The document's adder: words added bit by bit. What the document turns. The document's constants. The document's words as lists of cells: what calls take and give, for regions that draw their order. Rows of the document's words that grow. -/
import Derived.Test.YtpeepdkeicgkiaaGreatDoorZo5
import Derived.Test.YtpeepdkeicgkiaaGreatDoorZo6
namespace Go.Proofs.YtpeepdkeicgkiaaGreatDoor
set_option linter.unusedVariables false
set_option linter.unusedSimpArgs false
set_option linter.unusedSectionVars false
open Go.RowKit

theorem fold_set : ∀ (l : List Value) (j off : Nat) (cs : Array Value), off + j + l.length ≤ cs.size →
    ((l.zipIdx j).foldl (fun (cs : Array Value) (p : Value × Nat) => cs.setIfInBounds (off + p.2) p.1) cs).toList = cs.toList.take (off + j) ++ l ++ cs.toList.drop (off + j + l.length)
  | [], j, off, cs, h => by simp
  | x :: r, j, off, cs, h => by
    simp only [List.length_cons] at h
    rw [List.zipIdx_cons, List.foldl_cons, fold_set r (j + 1) off _ (by rw [Array.size_setIfInBounds]; omega)]
    simp only [Array.toList_setIfInBounds, List.length_cons]
    have hlen : off + j < cs.toList.length := by simp; omega
    rw [show off + (j + 1) = off + j + 1 by omega, List.take_succ_eq_append_getElem (by simpa using hlen), List.take_set_of_le (Nat.le_refl _), List.drop_set_of_lt (by omega), List.getElem_set_self]
    rw [show off + j + 1 + r.length = off + j + (r.length + 1) by omega]
    simp
theorem fill_row (k i : Nat) (a : Array Value) (cells : Array Value) (rest : List (Nat × Value)) (ha : a.size = k) (h : i * k + k ≤ cells.size) :
    ∃ cells', cells'.toList = cells.toList.take (i * k) ++ a.toList ++ cells.toList.drop (i * k + k) ∧ Instr.fill (fun i => some (i * k, k)) cells ((i, .agg a) :: rest) = Instr.fill (fun i => some (i * k, k)) cells' rest := by
  refine ⟨(a.zipIdx.foldl (fun (cs : Array Value) (p : Value × Nat) => cs.setIfInBounds (i * k + p.2) p.1) cells), ?_, ?_⟩
  · have := fold_set a.toList 0 (i * k) cells (by simp [ha]; omega)
    rw [← Array.foldl_toList, Array.toList_zipIdx]
    rw [this]
    simp [ha]
  · have hc : (Value.agg a).cells = a := rfl
    simp only [Instr.fill, hc]
    rw [if_neg (by rw [ha]; simp; omega)]
/-- whole rows, one behind the other -/
theorem fill_rows (k : Nat) : ∀ (xs : List (Array Value)) (i : Nat) (cells : Array Value), (∀ x ∈ xs, x.size = k) → (i + xs.length) * k = cells.size →
    ∃ c', c'.toList = cells.toList.take (i * k) ++ xs.flatMap (·.toList) ∧ Instr.fill (fun i => some (i * k, k)) cells ((xs.zipIdx i).map fun p => (p.2, .agg p.1)) = some c'
  | [], i, cells, hx, h => ⟨cells, by simp only [List.length_nil, Nat.add_zero] at h; simp [List.take_of_length_le, h], rfl⟩
  | a :: r, i, cells, hx, h => by
    have ha := hx a (by simp)
    have h2 : (i + 1 + r.length) * k = cells.size := by rw [← h]; simp only [List.length_cons]; congr 1; omega
    have h3 : i * k + k ≤ cells.size := by
      rw [← h2, show i * k + k = (i + 1) * k by rw [Nat.succ_mul]]
      exact Nat.mul_le_mul_right _ (by omega)
    obtain ⟨c1, e1, q1⟩ := fill_row k i a cells ((r.zipIdx (i + 1)).map fun p => (p.2, .agg p.1)) ha h3
    have hs1 : c1.size = cells.size := by
      have := congrArg List.length e1
      simp only [Array.length_toList, List.length_append, List.length_take, List.length_drop, ha] at this
      omega
    obtain ⟨c2, e2, q2⟩ := fill_rows k r (i + 1) c1 (fun x hx' => hx x (by simp [hx'])) (by rw [hs1]; exact h2)
    refine ⟨c2, ?_, ?_⟩
    · rw [e2, e1, show (i + 1) * k = (cells.toList.take (i * k) ++ a.toList).length by
        rw [List.length_append, List.length_take, Array.length_toList, Array.length_toList, ha, Nat.succ_mul]; omega, List.take_left]
      simp [List.flatMap_cons]
    · rw [List.zipIdx_cons, List.map_cons, q1]
      exact q2
theorem run_build_rows {P : Program} (w : World) (t e : TypeId) (k : Nat) (z : Value) (xs : List (Array Value)) (ht : P.underlying t = some (.slice e)) (hi : (P.info? e).map (fun i => (i.zero, i.size)) = some (some z, k)) (hx : ∀ x ∈ xs, x.size = k) (hn : xs.length * k ≤ 16777216) (h0 : xs.length * k ≠ 0) (parts : Array (Nat × Value)) (hp : parts.toList = (xs.zipIdx 0).map fun p => (p.2, .agg p.1)) :
    (Instr.buildSlice t xs.length parts).run P w = .ok (.slice (some ⟨w.heap.size, 0, none⟩) xs.length xs.length) (w.alloc (.cells (xs.flatMap (·.toList)).toArray e)) := by
  obtain ⟨hz, hsz⟩ := zero_of_info hi
  have hso : ∀ w, (Go.sizeOf e).run P w = .ok k w := fun w => by
    cases hq : P.info? e with
    | none => simp [hq] at hsz
    | some i => simp [hq] at hsz; simp [sizeOf, typeInfo, hq, hsz]
  obtain ⟨c, ec, qc⟩ := fill_rows k xs 0 ((Array.range (xs.length * k)).map (z.cells[· % z.cells.size]!)) hx (by simp)
  have hc : c = (xs.flatMap (·.toList)).toArray := by
    apply Array.ext'
    rw [ec]; simp
  unfold Instr.buildSlice
  simp only [Sem.run_bind, run_underlying ht, Result.andThen_ok, hso, hp]
  rw [if_neg (by omega)]
  simp only [Sem.run_bind, Sem.run_pure, Result.andThen_ok, h0, if_false, hz, qc, hc]
  rfl
end Go.Proofs.YtpeepdkeicgkiaaGreatDoor
namespace Go.Proofs.YtpeepdkeicgkiaaGreatDoor
set_option linter.unusedVariables false
set_option linter.unusedSimpArgs false
set_option linter.unusedSectionVars false
open Go.RowKit

theorem wpList_load_midA {P : Program} {ops : Array Oper} {rest : List Oper} {op : Oper} {a : Act} {w : World} {Q : Exit → Act → World → Prop} (hgd : op.guard = none) (ty : TypeId) (x : Operand) (ho : op.op = .load ty x)
    (b o : Nat) (hx : a.eval x = .pointer (some ⟨b, o, none⟩)) (cs : Array Value) (d : TypeDesc) (hc : w.rangeAt b o cs.toList)
    (hu : P.underlying ty = some d) (hd : d.isRow = true) (hi : (P.info? ty).map (·.size) = some cs.size)
    (h : wpList P ops Q rest (a.put op.dst (.agg cs)) w) : wpList P ops Q (op :: rest) a w :=
  wpList_load_mid hgd ty x ho b o hx cs.toList d hc hu hd (by rw [Array.length_toList]; exact hi) (by rw [Array.toArray_toList]; exact h)
/-- words, one behind the other -/
def wsC (ws : List W32) : Array Value := (ws.flatMap fun x => (wordC x).toList).toArray
theorem wordC_len (x : W32) : (wordC x).toList.length = 32 := by simp [wordC]
theorem flat32 : ∀ (ws : List W32) (j i : Nat) (x : W32), ws[j]? = some x → i < 32 → (ws.flatMap fun x => (wordC x).toList)[32 * j + i]? = (wordC x).toList[i]?
  | [], j, i, x, h, hi => by simp at h
  | y :: r, 0, i, x, h, hi => by
    obtain rfl : y = x := by simpa using h
    rw [List.flatMap_cons, List.getElem?_append_left (by rw [wordC_len]; omega)]
    congr 1; omega
  | y :: r, j + 1, i, x, h, hi => by
    rw [List.flatMap_cons, List.getElem?_append_right (by rw [wordC_len]; omega), wordC_len, ← flat32 r j i x (by simpa using h) hi]
    congr 1; omega
theorem ws_range {w : World} {b : Nat} {t : TypeId} {ws : List W32} (h : Blk w b t (wsC ws)) {j : Nat} {x : W32} (hx : ws[j]? = some x) : w.rangeAt b (32 * j) (wordC x).toList := fun i v hv => by
  have hi : i < 32 := by have := (List.getElem?_eq_some_iff.1 hv).1; rwa [wordC_len] at this
  rw [h.cell, ← hv, ← flat32 ws j i x hx hi]
  simp [wsC]
theorem foldl_take (ws : List W32) {k : Nat} {x : W32} (h : ws[k]? = some x) : (ws.take (k + 1)).foldl (· + ·) 0 = (ws.take k).foldl (· + ·) 0 + x := by
  rw [List.take_add_one, h, List.foldl_append]; rfl
set_option maxRecDepth 100000 in
set_option maxHeartbeats 3200000 in
theorem dadd_any (ws : List W32) (b : Nat) (w : World) (hb : Blk w b 135 (wsC ws)) (hn : ws.length ≤ 64) :
    Calls Tryz.prog 83 #[.slice (some ⟨b, 0, none⟩) ws.length ws.length] w fun e w' => e = .returned (.agg (wordC (ws.foldl (· + ·) 0))) ∧ Below w.heap.size w w' := by
  have hz := zC_lit
  have HL := Lib.hid hb.lt
  have HBB := Lib.hid hb
  clear hb
  have HZ0 := Lib.hid (Blk.new w 135 zC)
  have HZ1 := Lib.hid (Blk.new (w.alloc (.cells zC 135)) 135 zC)
  rw [World.size_alloc] at HZ1
  have HB := Lib.hid (((Below.refl w.heap.size w).alloc (Nat.le_refl _) (.cells zC 135)).alloc (by simp) (.cells zC 135))
  have HZ2 := Lib.hid (HZ0.out.alloc (.cells zC 135))
  go_enter Tryz.func83, Tryz.ntmps83
  go_wp2_with (refine wpList_store_row rfl 135 _ _ rfl (w.heap.size + 1) zC rfl rfl 135 zC HZ1.out (sizeWC _) rfl (bitsC_one _) ?_)
  have HS := Lib.hid (show Blk (((w.alloc (.cells zC 135)).alloc (.cells zC 135)).setRow (w.heap.size + 1) zC) w.heap.size 135 zC ∧ Blk (((w.alloc (.cells zC 135)).alloc (.cells zC 135)).setRow (w.heap.size + 1) zC) (w.heap.size + 1) 135 zC ∧ Below w.heap.size w (((w.alloc (.cells zC 135)).alloc (.cells zC 135)).setRow (w.heap.size + 1) zC) from
    ⟨HZ2.out.rowFar (by omega), HZ1.out.row, below_row HB.out (by omega) _⟩)
  clear HZ0 HZ1 HZ2 HB
  go_loopw [13] (fun iv wr => ∃ k : Nat, k ≤ ws.length ∧ iv = .int .i64 (k : Nat) ∧ Hid (Blk wr w.heap.size 135 zC ∧ Blk wr (w.heap.size + 1) 135 (wordC ((ws.take k).foldl (· + ·) 0)) ∧ Below w.heap.size w wr)) (fun iv _ => ws.length - (intOf iv).toNat)
  case atStart => exact ⟨0, Nat.zero_le _, rfl, Lib.hid ⟨HS.out.1, by
    have e : wordC ((ws.take 0).foldl (· + ·) 0) = zC := bitsC_ext fun i hi => by simp
    rw [e]; exact HS.out.2.1, HS.out.2.2⟩⟩
  case round =>
    clear HS
    obtain ⟨k, hk, rfl, HS⟩ := hrel
    by_cases hlt : k < ws.length
    · obtain ⟨x, hx⟩ : ∃ x, ws[k]? = some x := ⟨_, List.getElem?_eq_getElem hlt⟩
      have HRG := Lib.hid (ws_range (HBB.out.below HS.out.2.2 HL.out) hx)
      have HFT := Lib.hid (foldl_take ws hx)
      generalize (ws.take k).foldl (· + ·) 0 = s at *
      obtain ⟨wo, rfl⟩ : ∃ wo : World, wo = wr := ⟨_, rfl⟩
      have HN0 := Lib.hid (Blk.new wo 135 zC)
      have HN1 := Lib.hid (And.intro (HS.out.1.alloc (.cells zC 135)) (And.intro (HS.out.2.1.alloc (.cells zC 135)) (HS.out.2.2.alloc HS.out.2.2.size (.cells zC 135))))
      have HLT := Lib.hid (And.intro HS.out.2.1.lt HS.out.1.lt)
      have HSZ := Lib.hid HS.out.2.2.size
      clear HS hx
      have hgk : (k : Int) < (ws.length : Int) := by omega
      have hek : k * 32 = 32 * k := Nat.mul_comm _ _
      go_wp2_with (first
        | (refine wpList_load_midA rfl 135 _ rfl b (32 * k) (by first | rfl | (simp [hek])) (wordC x) _ HRG.out Tryz.underlying135 rfl (sizeWC _) ?_)
        | (refine wpList_store_row rfl 135 _ _ rfl wo.heap.size (wordC x) rfl rfl 135 zC HN0.out (sizeWC _) (by simp [zC, wordC]) (bitsC_one _) ?_))
      have HN2 := Lib.hid (show Blk ((wo.alloc (.cells zC 135)).setRow wo.heap.size (wordC x)) w.heap.size 135 zC ∧ Blk ((wo.alloc (.cells zC 135)).setRow wo.heap.size (wordC x)) (w.heap.size + 1) 135 (wordC s) ∧ Blk ((wo.alloc (.cells zC 135)).setRow wo.heap.size (wordC x)) wo.heap.size 135 (wordC x) ∧ Below w.heap.size w ((wo.alloc (.cells zC 135)).setRow wo.heap.size (wordC x)) from
        ⟨HN1.out.1.rowFar (by have := HLT.out.2; omega), HN1.out.2.1.rowFar (by have := HLT.out.1; omega), HN0.out.row, below_row HN1.out.2.2 HSZ.out _⟩)
      clear HN0 HN1 hek
      go_loopw [6, 7] (fun cv iv wi => ∃ j : Nat, j ≤ 32 ∧ cv = .bool (carW s x (32 - j)) ∧ iv = .int .i64 ((j : Int) - 1) ∧ Hid (Blk wi w.heap.size 135 zC ∧ Blk wi (w.heap.size + 1) 135 (bitsC fun i => if j ≤ i then (s + x).getMsbD i else s.getMsbD i) ∧ Blk wi wo.heap.size 135 (wordC x) ∧ Below w.heap.size w wi)) (fun _ iv _ => (intOf iv + 1).toNat)
      case atStart =>
        refine ⟨32, Nat.le_refl _, by rw [carW_zero], rfl, Lib.hid ⟨HN2.out.1, ?_, HN2.out.2.2⟩⟩
        have e : (bitsC fun i => if 32 ≤ i then (s + x).getMsbD i else s.getMsbD i) = wordC s := bitsC_ext fun i hi => by rw [if_neg (by omega)]
        rw [e]; exact HN2.out.2.1
      case round =>
        clear HN2
        obtain ⟨j, hj, rfl, rfl, HS⟩ := hrel
        rcases j with _ | j
        · have hneg : ((0 : Nat) : Int) - 1 < 0 := by decide
          have e : (bitsC fun i => if 0 ≤ i then (s + x).getMsbD i else s.getMsbD i) = wordC (s + x) := bitsC_ext fun i hi => by simp
          rw [e] at HS
          clear e
          have HS2 := Lib.hid (And.intro HS.out.1 (And.intro HS.out.2.1 HS.out.2.2.2))
          clear HS
          generalize carW s x (32 - 0) = cq at *
          go_wp2
          go_roundw
          case rel => exact ⟨k + 1, hlt, by go_num, by rw [HFT.out]; exact HS2⟩
          case measure => simp [intOf]; omega
        · have ej : ((j + 1 : Nat) : Int) - 1 = (j : Int) := by omega
          have hj31 : j < 32 := by omega
          have hpos : ¬ (j : Int) < 0 := by omega
          have HAB := Lib.hid (add_bit s x hj31)
          have HCB := Lib.hid (car_bit s x hj31)
          rw [show 32 - (j + 1) = 31 - j by omega]
          have c0 : wr.cell? ⟨w.heap.size + 1, j, none⟩ = some (.bool (s.getMsbD j)) := by rw [HS.out.2.1.cell, bitsC_get _ hj31, if_neg (by omega)]
          have c1 : wr.cell? ⟨wo.heap.size, j, none⟩ = some (.bool (x.getMsbD j)) := by rw [HS.out.2.2.1.cell]; exact bitsC_get _ hj31
          have f0 := HS.out.2.1.frozen j
          have HN := Lib.hid (fun n => show Blk ((wr.drewN n).setCell ⟨w.heap.size + 1, j, none⟩ (.bool ((s + x).getMsbD j))) w.heap.size 135 zC ∧ Blk ((wr.drewN n).setCell ⟨w.heap.size + 1, j, none⟩ (.bool ((s + x).getMsbD j))) (w.heap.size + 1) 135 (bitsC fun i => if j ≤ i then (s + x).getMsbD i else s.getMsbD i) ∧ Blk ((wr.drewN n).setCell ⟨w.heap.size + 1, j, none⟩ (.bool ((s + x).getMsbD j))) wo.heap.size 135 (wordC x) ∧ Below w.heap.size w ((wr.drewN n).setCell ⟨w.heap.size + 1, j, none⟩ (.bool ((s + x).getMsbD j))) from by
            refine ⟨(HS.out.1.drewN n).far (by simp) _, ?_, (HS.out.2.2.1.drewN n).far (by have := HLT.out.1; simp; omega) _, (Below.drewN HS.out.2.2.2 n).setCell (Nat.le_succ _) _⟩
            have h := (HS.out.2.1.drewN n).set_ j (.bool ((s + x).getMsbD j))
            rw [bitsC_set] at h
            have e : (bitsC fun i => if i = j then (s + x).getMsbD j else if j + 1 ≤ i then (s + x).getMsbD i else s.getMsbD i) = bitsC fun i => if j ≤ i then (s + x).getMsbD i else s.getMsbD i := bitsC_ext fun i hi => by
              by_cases h : i = j
              · subst h; simp
              · rw [if_neg h]
                by_cases h2 : j ≤ i
                · rw [if_pos h2, if_pos (by omega)]
                · rw [if_neg h2, if_neg (by omega)]
            rw [e] at h
            exact h)
          have HNC := Lib.hid (show ∃ c' : Bool, carW s x (32 - j) = c' from ⟨_, rfl⟩)
          obtain ⟨c', hc'⟩ := HNC.out
          rw [hc'] at HCB
          have HC' := Lib.hid hc'
          obtain ⟨t, ht⟩ : ∃ t, (s + x).getMsbD j = t := ⟨_, rfl⟩
          rw [ht] at HAB HN
          clear hc' ht HS HNC
          generalize s.getMsbD j = ba at *
          generalize x.getMsbD j = bb at *
          generalize carW s x (31 - j) = bc at *
          rw [ej]
          go_wp2
          go_quiet (fail)
          have HN3 := Lib.hid (HN.out nq)
          have f1 : (wr.drewN nq).frozen? ⟨w.heap.size + 1, j, none⟩ = false := f0
          have c3 : (wr.drewN nq).cell? ⟨w.heap.size + 1, j, none⟩ = some (.bool ba) := c0
          clear HN c0 c1 f0
          generalize wr.drewN nq = wq at *
          have ht := HAB.out
          have hc := HCB.out
          clear HAB HCB
          cases ba <;> cases bb <;> cases bc <;> (
            simp at ht hc
            subst ht hc
            go_wp2
            go_roundw
            case rel => exact ⟨j, by omega, by rw [HC'.out], rfl, HN3⟩
            case measure => simp [intOf])
    · obtain rfl : k = ws.length := by omega
      have e : (ws.take ws.length) = ws := List.take_length
      rw [e] at HS
      clear e
      have hgk : ¬ (ws.length : Int) < (ws.length : Int) := by omega
      go_wp2_with (first
        | (refine wpList_load_row rfl 135 _ rfl (w.heap.size + 1) rfl 135 _ _ _ HS.out.2.1 Tryz.underlying135 rfl (sizeWC _) ?_)
        | (refine wpList_store_row rfl 135 _ _ rfl w.heap.size _ rfl rfl 135 zC HS.out.1 (sizeWC _) (by simp [zC, wordC]) (bitsC_one _) ?_))
      refine bodyPost_ret (results_cell_row Tryz.results83 _ _ w.heap.size 135 _ (0, 0) _ rfl HS.out.1.row Tryz.underlying135 rfl (sizeWC _)) rfl ?_
      exact ⟨rfl, below_row HS.out.2.2 (Nat.le_refl _) _⟩
end Go.Proofs.YtpeepdkeicgkiaaGreatDoor
namespace Go.Proofs.YtpeepdkeicgkiaaGreatDoor
set_option linter.unusedVariables false
set_option linter.unusedSimpArgs false
set_option linter.unusedSectionVars false
open Go.RowKit

set_option maxRecDepth 100000 in
set_option maxHeartbeats 3200000 in
theorem turns_any (x : W32) (a b c : Nat) (shift : Bool) (w : World) (ha : a < 32) (hb : b < 32) (hc : c < 32) :
    Calls Tryz.prog 84 #[.agg (wordC x), .int .i64 (a : Nat), .int .i64 (b : Nat), .int .i64 (c : Nat), .bool shift] w fun e w' => e = .returned (.agg (wordC (trnW x a b c shift))) ∧ Below w.heap.size w w' := by
  have HTR := Lib.hid (fun i (hi : i < 32) => trn_bit x shift ha hb hc hi)
  generalize trnW x a b c shift = X at *
  have hz := zC_lit
  have HZ0 := Lib.hid (Blk.new w 135 (wordC x))
  have HZ1 := Lib.hid (And.intro (HZ0.out.alloc (.cells zC 135)) (Blk.new (w.alloc (.cells (wordC x) 135)) 135 zC))
  have HZ2 := Lib.hid (And.intro (HZ1.out.1.alloc (.cells zC 135)) (And.intro (HZ1.out.2.alloc (.cells zC 135)) (Blk.new ((w.alloc (.cells (wordC x) 135)).alloc (.cells zC 135)) 135 zC)))
  simp only [World.size_alloc] at HZ2
  have HB := Lib.hid ((((Below.refl w.heap.size w).alloc (Nat.le_refl _) (.cells (wordC x) 135)).alloc (by simp) (.cells zC 135)).alloc (by simp; omega) (.cells zC 135))
  clear HZ0 HZ1
  go_enter Tryz.func84, Tryz.ntmps84
  go_wp2_with (refine wpList_store_row rfl 135 _ _ rfl (w.heap.size + 1 + 1) zC rfl rfl 135 zC HZ2.out.2.2 (sizeWC _) rfl (bitsC_one _) ?_)
  go_loopw [15] (fun iv wr => ∃ k : Nat, k ≤ 32 ∧ iv = .int .i64 (k : Nat) ∧ Hid (Blk wr w.heap.size 135 (wordC x) ∧ Blk wr (w.heap.size + 1) 135 zC ∧ Blk wr (w.heap.size + 1 + 1) 135 (bitsC fun i => decide (i < k) && X.getMsbD i) ∧ Below w.heap.size w wr)) (fun iv _ => 32 - (intOf iv).toNat)
  case atStart => exact ⟨0, by omega, rfl, Lib.hid ⟨HZ2.out.1.rowFar (by omega), HZ2.out.2.1.rowFar (by omega), by
    have e : (bitsC fun i => decide (i < 0) && X.getMsbD i) = zC := bitsC_ext fun i hi => by rw [decide_eq_false (by omega)]; rfl
    rw [e]; exact HZ2.out.2.2.row, below_row HB.out (by omega) _⟩⟩
  case round =>
    clear HZ2 HB hz
    obtain ⟨k, hk, rfl, HS⟩ := hrel
    by_cases hlt : k < 32
    · have HT := Lib.hid (HTR.out k hlt)
      have w0 : IntKind.i64.wrap ((k : Int) + 32) = (k : Int) + 32 := IntWalk.i64_in _ (by omega)
      have mk : ∀ q : Nat, q < 32 → ∃ p : Nat, p = (k + 32 - q) % 32 ∧ (p : Int) < 32 ∧ IntKind.i64.wrap ((k : Int) + 32 - (q : Int)) = (k : Int) + 32 - (q : Int) ∧ ((k : Int) + 32 - (q : Int)).tmod 32 = (p : Int) ∧ IntKind.i64.wrap (p : Int) = (p : Int) ∧ p < 32 := fun q hq => by
        refine ⟨(k + 32 - q) % 32, rfl, by omega, IntWalk.i64_in _ (by omega), ?_, IntWalk.i64_in _ (by omega), by omega⟩
        rw [show (k : Int) + 32 - (q : Int) = ((k + 32 - q : Nat) : Int) by omega]; rfl
      obtain ⟨pa, ea, la, wa, ta, va, na⟩ := mk a ha
      obtain ⟨pb, eb, lb, wb, tb, vb, nb⟩ := mk b hb
      obtain ⟨pc, ec, lc, wc, tc, vc, nc⟩ := mk c hc
      rw [← ea, ← eb, ← ec] at HT
      clear ea eb ec mk
      have ca : wr.cell? ⟨w.heap.size, pa, none⟩ = some (.bool (x.getMsbD pa)) := by rw [HS.out.1.cell]; exact bitsC_get _ na
      have cb : wr.cell? ⟨w.heap.size, pb, none⟩ = some (.bool (x.getMsbD pb)) := by rw [HS.out.1.cell]; exact bitsC_get _ nb
      have HC := Lib.hid (fun n => show (wr.drewN n).cell? ⟨w.heap.size, pc, none⟩ = some (.bool (x.getMsbD pc)) from by rw [(HS.out.1.drewN n).cell]; exact bitsC_get _ nc)
      have HO := Lib.hid (fun n => show (wr.drewN n).cell? ⟨w.heap.size + 1 + 1, k, none⟩ = some (.bool (decide (k < k) && X.getMsbD k)) from by rw [(HS.out.2.2.1.drewN n).cell]; exact bitsC_get _ hlt)
      have HF := Lib.hid (fun n => (HS.out.2.2.1.drewN n).frozen k)
      have HN := Lib.hid (fun n => show Blk ((wr.drewN n).setCell ⟨w.heap.size + 1 + 1, k, none⟩ (.bool (X.getMsbD k))) w.heap.size 135 (wordC x) ∧ Blk ((wr.drewN n).setCell ⟨w.heap.size + 1 + 1, k, none⟩ (.bool (X.getMsbD k))) (w.heap.size + 1) 135 zC ∧ Blk ((wr.drewN n).setCell ⟨w.heap.size + 1 + 1, k, none⟩ (.bool (X.getMsbD k))) (w.heap.size + 1 + 1) 135 (bitsC fun i => decide (i < k + 1) && X.getMsbD i) ∧ Below w.heap.size w ((wr.drewN n).setCell ⟨w.heap.size + 1 + 1, k, none⟩ (.bool (X.getMsbD k))) from by
        refine ⟨(HS.out.1.drewN n).far (by simp; omega) _, (HS.out.2.1.drewN n).far (by simp) _, ?_, (Below.drewN HS.out.2.2.2 n).setCell (by simp; omega) _⟩
        have h := (HS.out.2.2.1.drewN n).set_ k (.bool (X.getMsbD k))
        rw [bitsC_set] at h
        have e : (bitsC fun i => if i = k then X.getMsbD k else decide (i < k) && X.getMsbD i) = bitsC fun i => decide (i < k + 1) && X.getMsbD i := bitsC_ext fun i hi => by
          by_cases h : i = k
          · subst h; simp
          · rw [if_neg h]
            congr 1
            rw [Bool.eq_iff_iff, decide_eq_true_iff, decide_eq_true_iff]; omega
        rw [e] at h
        exact h)
      have hgk : (k : Int) < 32 := by omega
      obtain ⟨t, ht⟩ : ∃ t, X.getMsbD k = t := ⟨_, rfl⟩
      rw [ht] at HT HN HO
      clear ht HS HTR
      generalize x.getMsbD pa = xa at *
      generalize x.getMsbD pb = xb at *
      generalize x.getMsbD pc = xc at *
      generalize (decide (k < k) && t) = old at *
      cases xa <;> cases xb <;> (
        go_wp2
        go_quiet (fail)
        have cc := HC.out nq
        have co := HO.out nq
        have fo := HF.out nq
        have HN3 := Lib.hid (HN.out nq)
        clear ca cb HC HO HF HN
        generalize wr.drewN nq = wq at *
        have hT := HT.out
        clear HT
        by_cases hck : c ≤ k
        · have hgc : ¬ (k : Int) < (c : Int) := by omega
          cases shift <;> cases xc <;> (
            simp [hck] at hT
            subst hT
            go_wp2
            go_roundw
            case rel => exact ⟨k + 1, hlt, by go_num, HN3⟩
            case measure => simp [intOf]; omega)
        · have hgc : (k : Int) < (c : Int) := by omega
          cases shift <;> cases xc <;> (
            simp [hck] at hT
            subst hT
            go_wp2
            go_roundw
            case rel => exact ⟨k + 1, hlt, by go_num, HN3⟩
            case measure => simp [intOf]; omega))
    · obtain rfl : k = 32 := by omega
      have e : (bitsC fun i => decide (i < 32) && X.getMsbD i) = wordC X := bitsC_ext fun i hi => by rw [decide_eq_true hi]; rfl
      rw [e] at HS
      clear e
      rw [show ((32 : Nat) : Int) = 32 from rfl]
      go_wp2_with (first
        | (refine wpList_load_row rfl 135 _ rfl (w.heap.size + 1 + 1) rfl 135 _ _ _ HS.out.2.2.1 Tryz.underlying135 rfl (sizeWC _) ?_)
        | (refine wpList_store_row rfl 135 _ _ rfl (w.heap.size + 1) _ rfl rfl 135 zC HS.out.2.1 (sizeWC _) (by simp [zC, wordC]) (bitsC_one _) ?_))
      refine bodyPost_ret (results_cell_row Tryz.results84 _ _ (w.heap.size + 1) 135 _ (0, 0) _ rfl HS.out.2.1.row Tryz.underlying135 rfl (sizeWC _)) rfl ?_
      exact ⟨rfl, below_row HS.out.2.2.2 (by omega) _⟩
end Go.Proofs.YtpeepdkeicgkiaaGreatDoor
namespace Go.Proofs.YtpeepdkeicgkiaaGreatDoor
set_option linter.unusedVariables false
set_option linter.unusedSimpArgs false
set_option linter.unusedSectionVars false
open Go.RowKit

def numC (l : List W32) : Array Value := (l.map fun x => Value.int .u64 (x.toNat : Int)).toArray
set_option maxRecDepth 100000 in
set_option maxHeartbeats 3200000 in
theorem table_any (w : World) :
    Calls Tryz.prog 80 #[] w fun e w' => e = .returned (.tuple #[.slice (some ⟨w.heap.size, 0, none⟩) 8 8, .slice (some ⟨w.heap.size + 1, 0, none⟩) 64 64]) ∧ w' = (w.alloc (.cells (numC htab.toL) 86)).alloc (.cells (numC ktab) 86) := by
  go_enter Tryz.func80, Tryz.ntmps80
  go_wp2
  first | go_ret2 | go_ret
  exact ⟨rfl, by first | rfl | kernel_rfl⟩
end Go.Proofs.YtpeepdkeicgkiaaGreatDoor
namespace Go.Proofs.YtpeepdkeicgkiaaGreatDoor
set_option linter.unusedVariables false
set_option linter.unusedSimpArgs false
set_option linter.unusedSectionVars false
open Go.RowKit

@[irreducible] def wl (x : W32) : List Value := (wordC x).toList
theorem wl_is (x : W32) : wl x = (wordC x).toList := by unfold wl; rfl
theorem wl_arr (x : W32) : (wl x).toArray = wordC x := by rw [wl_is, Array.toArray_toList]
theorem wl_len (x : W32) : (wl x).length = 32 := by rw [wl_is]; exact wordC_len x
theorem wl_one (x : W32) : ∀ v ∈ wl x, v.oneCell' = true := fun v hv => by
  rw [wl_is] at hv
  have := bitsC_one x.getMsbD
  rw [Array.all_eq_true_iff_forall_mem] at this
  exact this v (by simpa [wordC] using hv)
theorem wl_size (x : W32) : (Tryz.prog.info? 135).map (·.size) = some (wl x).length := by rw [wl_len]; exact sizeW
/-- words that lie one behind the other -/
def WsAt (w : World) (g : Nat) (ws : List W32) : Prop := g < w.heap.size ∧ ∀ j x, ws[j]? = some x → w.rangeAt g (32 * j) (wl x)
theorem WsAt.below {w w' : World} {g : Nat} {ws : List W32} (h : WsAt w g ws) {B : Nat} (hb : Below B w w') (hB : g < B) : WsAt w' g ws :=
  ⟨Nat.lt_of_lt_of_le h.1 hb.size, fun j x hx i v hv => (hb.cell (p := ⟨g, 32 * j + i, none⟩) hB).trans (h.2 j x hx i v hv)⟩
theorem WsAt.up {w w' : World} {g : Nat} {ws : List W32} (h : WsAt w g ws) (hb : Below w.heap.size w w') : WsAt w' g ws := h.below hb h.1
theorem word_at (x : W32) {i : Nat} (h : i < 32) : (wl x)[i]? = some (.bool (x.getMsbD i)) := by
  have := bitsC_get x.getMsbD h
  rw [wl_is]
  unfold wordC
  rwa [← Array.getElem?_toList] at this
theorem WsAt.bit {w : World} {g : Nat} {ws : List W32} (h : WsAt w g ws) {j i : Nat} {x : W32} (hx : ws[j]? = some x) (hi : i < 32) : w.cell? ⟨g, 32 * j + i, none⟩ = some (.bool (x.getMsbD i)) := h.2 j x hx i _ (word_at x hi)
theorem Blk.ws {w : World} {g : Nat} {ws : List W32} (h : Blk w g 135 (wsC ws)) : WsAt w g ws := ⟨h.lt, fun _ x hx => by rw [wl_is]; exact ws_range h hx⟩
theorem Blk.wrange {w : World} {g : Nat} {t : TypeId} {x : W32} (h : Blk w g t (wordC x)) : w.rangeAt g 0 (wl x) := fun j v hv => by
  rw [wl_is, Array.getElem?_toList] at hv
  rw [Nat.zero_add, h.cell, hv]
theorem range_below {w w' : World} {g o : Nat} {cs : List Value} (h : w.rangeAt g o cs) {B : Nat} (hb : Below B w w') (hB : g < B) : w'.rangeAt g o cs := fun j v hv => (hb.cell (p := ⟨g, o + j, none⟩) hB).trans (h j v hv)
theorem there_blk {w : World} {g : Nat} {t : TypeId} {f : Nat → Bool} (h : Blk w g t (bitsC f)) : w.there g 0 32 := fun j hj => by
  rw [Nat.zero_add]
  exact ⟨by rw [h.cell, bitsC_get _ hj]; rfl, h.frozen j⟩
/-- slices built of words -/
theorem build_ws (w : World) (ws : List W32) (hn : ws.length ≤ 64) (h0 : 0 < ws.length) (parts : Array (Nat × Value)) (hp : parts.toList = (ws.zipIdx 0).map fun p => (p.2, .agg (wl p.1).toArray)) :
    (Instr.buildSlice 133 ws.length parts).run Tryz.prog w = .ok (.slice (some ⟨w.heap.size, 0, none⟩) ws.length ws.length) (w.alloc (.cells (wsC ws) 135)) := by
  have hx : ∀ x ∈ ws.map wordC, x.size = 32 := fun x hx => by
    obtain ⟨y, _, rfl⟩ := List.mem_map.1 hx
    simp [wordC]
  have hi : (Tryz.prog.info? 135).map (fun i => (i.zero, i.size)) = some (some (.agg zC), 32) := by kernel_rfl
  have := run_build_rows (P := Tryz.prog) w 133 135 32 (.agg zC) (ws.map wordC) Tryz.underlying133 hi hx (by rw [List.length_map]; omega) (by rw [List.length_map]; omega) parts (by
    rw [hp]
    simp only [List.zipIdx_map, List.map_map]
    refine List.map_congr_left fun p _ => ?_
    simp [wl_arr])
  rw [List.length_map] at this
  have e : ((ws.map wordC).flatMap (·.toList)).toArray = wsC ws := by unfold wsC; rw [List.flatMap_map]
  rw [this, e]
theorem agg_of (x : W32) : Value.agg (wl x).toArray = .agg (wordC x) := by rw [wl_arr]
section
variable (x : W32) (w : World)
theorem turns_A' : Calls Tryz.prog 84 #[.agg (wl x).toArray, .int .i64 7, .int .i64 18, .int .i64 3, .bool true] w fun e w' => e = .returned (.agg (wl (sA x)).toArray) ∧ Below w.heap.size w w' := by
  rw [agg_of, agg_of]; exact turns_any x 7 18 3 true w (by decide) (by decide) (by decide)
theorem turns_B' : Calls Tryz.prog 84 #[.agg (wl x).toArray, .int .i64 17, .int .i64 19, .int .i64 10, .bool true] w fun e w' => e = .returned (.agg (wl (sB x)).toArray) ∧ Below w.heap.size w w' := by
  rw [agg_of, agg_of]; exact turns_any x 17 19 10 true w (by decide) (by decide) (by decide)
theorem turns_C' : Calls Tryz.prog 84 #[.agg (wl x).toArray, .int .i64 6, .int .i64 11, .int .i64 25, .bool false] w fun e w' => e = .returned (.agg (wl (sC x)).toArray) ∧ Below w.heap.size w w' := by
  rw [agg_of, agg_of]; exact turns_any x 6 11 25 false w (by decide) (by decide) (by decide)
theorem turns_D' : Calls Tryz.prog 84 #[.agg (wl x).toArray, .int .i64 2, .int .i64 13, .int .i64 22, .bool false] w fun e w' => e = .returned (.agg (wl (sD x)).toArray) ∧ Below w.heap.size w w' := by
  rw [agg_of, agg_of]; exact turns_any x 2 13 22 false w (by decide) (by decide) (by decide)
end
theorem dadd_two (x y : W32) (b : Nat) (w : World) (hb : Blk w b 135 (wsC [x, y])) : Calls Tryz.prog 83 #[.slice (some ⟨b, 0, none⟩) 2 2] w fun e w' => e = .returned (.agg (wl (x + y)).toArray) ∧ Below w.heap.size w w' := by
  refine (dadd_any [x, y] b w hb (by simp)).mono fun _ _ ⟨h1, h2⟩ => ⟨h1.trans ?_, h2⟩
  rw [agg_of]
  exact congrArg (fun z : W32 => Ending.returned (.agg (wordC z))) (show 0 + x + y = x + y by rw [show (0 : W32) + x = x from BitVec.zero_add x])
theorem dadd_four (x y z u : W32) (b : Nat) (w : World) (hb : Blk w b 135 (wsC [x, y, z, u])) : Calls Tryz.prog 83 #[.slice (some ⟨b, 0, none⟩) 4 4] w fun e w' => e = .returned (.agg (wl (x + y + z + u)).toArray) ∧ Below w.heap.size w w' := by
  refine (dadd_any [x, y, z, u] b w hb (by simp)).mono fun _ _ ⟨h1, h2⟩ => ⟨h1.trans ?_, h2⟩
  rw [agg_of]
  exact congrArg (fun z : W32 => Ending.returned (.agg (wordC z))) (show 0 + x + y + z + u = x + y + z + u by rw [show (0 : W32) + x = x from BitVec.zero_add x])
theorem dadd_five (x y z u v : W32) (b : Nat) (w : World) (hb : Blk w b 135 (wsC [x, y, z, u, v])) : Calls Tryz.prog 83 #[.slice (some ⟨b, 0, none⟩) 5 5] w fun e w' => e = .returned (.agg (wl (x + y + z + u + v)).toArray) ∧ Below w.heap.size w w' := by
  refine (dadd_any [x, y, z, u, v] b w hb (by simp)).mono fun _ _ ⟨h1, h2⟩ => ⟨h1.trans ?_, h2⟩
  rw [agg_of]
  exact congrArg (fun z : W32 => Ending.returned (.agg (wordC z))) (show 0 + x + y + z + u + v = x + y + z + u + v by rw [show (0 : W32) + x = x from BitVec.zero_add x])
theorem blk_set {w : World} {g : Nat} {t : TypeId} {cs : Array Value} (h : Blk w g t cs) (hs : cs.size = 32) (x : W32) : Blk (w.setCells g 0 (wl x)) g t (wordC x) := by
  have key : ∀ (vs : List Value) (o : Nat) (W : World) (ds : Array Value), Blk W g t ds → o + vs.length ≤ ds.size → ∃ es : Array Value, Blk (W.setCells g o vs) g t es ∧ es.size = ds.size ∧ ∀ j, es[j]? = if o ≤ j ∧ j < o + vs.length then vs[j - o]? else ds[j]? := by
    intro vs
    induction vs with
    | nil => intro o W ds hW _; exact ⟨ds, hW, rfl, fun j => by rw [if_neg (by simp)]⟩
    | cons v r ih =>
      intro o W ds hW hle
      simp only [List.length_cons] at hle
      obtain ⟨es, q1, q2, q3⟩ := ih (o + 1) _ _ (hW.set_ o v) (by rw [Array.size_setIfInBounds]; omega)
      refine ⟨es, q1, by rw [q2, Array.size_setIfInBounds], fun j => ?_⟩
      rw [q3]
      by_cases hj : j = o
      · subst hj
        rw [if_neg (by omega), if_pos (by simp), Array.getElem?_setIfInBounds, if_pos rfl, if_pos (by omega)]
        simp
      · by_cases hj2 : o + 1 ≤ j ∧ j < o + 1 + r.length
        · rw [if_pos hj2, if_pos (by simp; omega), show j - o = (j - (o + 1)) + 1 by omega, List.getElem?_cons_succ]
        · rw [if_neg hj2, if_neg (by simp; omega), Array.getElem?_setIfInBounds, if_neg (fun e => hj e.symm)]
  obtain ⟨es, q1, q2, q3⟩ := key (wl x) 0 w cs h (by rw [wl_len]; omega)
  have e : es = wordC x := by
    apply Array.ext_getElem?
    intro j
    rw [q3, wl_len]
    by_cases hj : j < 32
    · rw [if_pos (by omega), wl_is, Array.getElem?_toList]; rfl
    · rw [if_neg (by omega), Array.getElem?_eq_none (by omega), Array.getElem?_eq_none (by simp [wordC]; omega)]
  rw [← e]; exact q1
theorem below_cells {B : Nat} {a : World} {g : Nat} (hg : B ≤ g) : ∀ (vs : List Value) (o : Nat) {w : World}, Below B a w → Below B a (w.setCells g o vs)
  | [], _, _, h => h
  | v :: r, o, _, h => below_cells hg r (o + 1) (h.setCell hg v)
end Go.Proofs.YtpeepdkeicgkiaaGreatDoor
namespace Go.Proofs.YtpeepdkeicgkiaaGreatDoor
set_option linter.unusedVariables false
set_option linter.unusedSimpArgs false
set_option linter.unusedSectionVars false
open Go.RowKit

def wls (ws : List W32) : List Value := ws.flatMap wl
theorem wls_len (ws : List W32) : (wls ws).length = ws.length * 32 := by
  unfold wls
  induction ws with
  | nil => rfl
  | cons x r ih => rw [List.flatMap_cons, List.length_append, wl_len, ih, List.length_cons]; omega
theorem wls_snoc (ws : List W32) (x : W32) : wls (ws ++ [x]) = wls ws ++ (wordC x).toList := by
  unfold wls; rw [List.flatMap_append, ← wl_is]; simp
theorem wls_get : ∀ (ws : List W32) (j i : Nat) (x : W32), ws[j]? = some x → i < 32 → (wls ws)[32 * j + i]? = (wl x)[i]?
  | [], j, i, x, h, hi => by simp at h
  | y :: r, 0, i, x, h, hi => by
    obtain rfl : y = x := by simpa using h
    unfold wls
    rw [List.flatMap_cons, List.getElem?_append_left (by rw [wl_len]; omega)]
    congr 1; omega
  | y :: r, j + 1, i, x, h, hi => by
    have ih := wls_get r j i x (by simpa using h) hi
    unfold wls at ih ⊢
    rw [List.flatMap_cons, List.getElem?_append_right (by rw [wl_len]; omega), wl_len, ← ih]
    congr 1; omega
section
variable {w : World} {base g cap n : Nat} {ws : List W32}
theorem own_wlen (h : w.ownsRow base 135 32 (.slice (some ⟨g, 0, none⟩) n cap) n (wls ws)) : ws.length = n := by
  have := h.1
  rw [wls_len] at this; omega
theorem own_ws (h : w.ownsRow base 135 32 (.slice (some ⟨g, 0, none⟩) n cap) n (wls ws)) : WsAt w g ws :=
  ⟨(h.lt g rfl).2, fun j x hx i v hv => by
    have hj := (List.getElem?_eq_some_iff.1 hx).1
    have hi : i < 32 := by have := (List.getElem?_eq_some_iff.1 hv).1; rwa [wl_len] at this
    have hn := own_wlen h
    rw [h.cellAt (32 * j + i) (by omega), wls_get ws j i x hx hi, hv]⟩
theorem own_wthere (h : w.ownsRow base 135 32 (.slice (some ⟨g, 0, none⟩) n cap) n (wls ws)) {j : Nat} (hj : j < n) : w.there g (32 * j) 32 := fun i hi => by
  have hn := own_wlen h
  refine ⟨?_, h.frozenAt _⟩
  obtain ⟨x, hx⟩ : ∃ x, ws[j]? = some x := ⟨_, List.getElem?_eq_getElem (by omega)⟩
  rw [h.cellAt (32 * j + i) (by omega), wls_get ws j i x hx hi, List.getElem?_eq_getElem (by rw [wl_len]; exact hi)]
  rfl
theorem own_cells : ∀ (vs : List Value) (o : Nat) (w : World) (xs : List Value), w.ownsRow base 135 32 (.slice (some ⟨g, 0, none⟩) n cap) n xs → o + vs.length ≤ xs.length →
    (w.setCells g o vs).ownsRow base 135 32 (.slice (some ⟨g, 0, none⟩) n cap) n (xs.take o ++ vs ++ xs.drop (o + vs.length))
  | [], o, w, xs, h, _ => by
    have e : xs.take o ++ ([] : List Value) ++ xs.drop (o + ([] : List Value).length) = xs := by simp
    rw [e]; exact h
  | v :: r, o, w, xs, h, hl => by
    simp only [List.length_cons] at hl
    have h1 := (h.stored o v).1
    have h2 := own_cells r (o + 1) _ _ h1 (by rw [List.length_set]; omega)
    have e : (xs.set o v).take (o + 1) ++ r ++ (xs.set o v).drop (o + 1 + r.length) = xs.take o ++ (v :: r) ++ xs.drop (o + (v :: r).length) := by
      rw [List.take_succ_eq_append_getElem (by rw [List.length_set]; omega), List.take_set_of_le (Nat.le_refl _), List.getElem_set_self, List.drop_set_of_lt (by omega)]
      simp only [List.length_cons, List.append_assoc, List.cons_append, List.nil_append]
      rw [show o + 1 + r.length = o + (r.length + 1) by omega]
    rw [e] at h2
    exact h2
theorem wls_set : ∀ (ws : List W32) (j : Nat) (x : W32), j < ws.length → (wls ws).take (32 * j) ++ wl x ++ (wls ws).drop (32 * j + (wl x).length) = wls (ws.set j x)
  | [], j, x, h => by simp at h
  | y :: r, 0, x, _ => by
    unfold wls
    rw [List.flatMap_cons, List.set_cons_zero, List.flatMap_cons, wl_len]
    rw [show 32 * 0 + 32 = (wl y).length by rw [wl_len], List.drop_left]
    simp
  | y :: r, j + 1, x, h => by
    have ih := wls_set r j x (by simpa using h)
    unfold wls at ih ⊢
    rw [List.flatMap_cons, List.set_cons_succ, List.flatMap_cons, ← ih, wl_len]
    rw [show 32 * (j + 1) = (wl y).length + 32 * j by rw [wl_len]; omega, List.take_length_add_append, show (wl y).length + 32 * j + 32 = (wl y).length + (32 * j + 32) by omega, List.drop_length_add_append]
    simp only [List.append_assoc]
theorem own_setw (h : w.ownsRow base 135 32 (.slice (some ⟨g, 0, none⟩) n cap) n (wls ws)) {j : Nat} (hj : j < n) (x : W32) : (w.setCells g (32 * j) (wl x)).ownsRow base 135 32 (.slice (some ⟨g, 0, none⟩) n cap) n (wls (ws.set j x)) := by
  have hn := own_wlen h
  have := own_cells (wl x) (32 * j) w (wls ws) h (by rw [wl_len, wls_len]; omega)
  rwa [wls_set ws j x (by omega)] at this
end
theorem infoWd : (Tryz.prog.info? 135).map (fun i => (i.zero, i.size, i.bytes)) = some (some (.agg zC), 32, 32) := by kernel_rfl
theorem wordC_one (x : W32) : ∀ u ∈ (wordC x).toList, u.oneCell' = true := by rw [← wl_is]; exact wl_one x
theorem wsC_one (x : W32) : wsC [x] = wordC x := by
  unfold wsC
  rw [List.flatMap_cons, List.flatMap_nil, List.append_nil, Array.toArray_toList]
/-- a word laid into a slice of its own -/
theorem wpList_build1 {ops : Array Oper} {rest : List Oper} {op : Oper} {a : Act} {w : World} {Q : Exit → Act → World → Prop} (hgd : op.guard = none) (y : Operand) (ho : op.op = .buildSlice 133 1 #[(0, y)]) (x : W32) (hy : a.eval y = .agg (wordC x))
    (h : wpList Tryz.prog ops Q rest (a.put op.dst (.slice (some ⟨w.heap.size, 0, none⟩) 1 1)) (w.alloc (.cells (wordC x) 135))) : wpList Tryz.prog ops Q (op :: rest) a w :=
  wpList_plain hgd fun K hK => by
    have hb := build_ws w [x] (by simp) (by simp) #[(0, .agg (wordC x))] (by simp [wl_arr])
    rw [wsC_one] at hb
    unfold Oper.wp
    have he : (execOp a.eval op).run Tryz.prog w = .ok (.value (.slice (some ⟨w.heap.size, 0, none⟩) 1 1)) (w.alloc (.cells (wordC x) 135)) := by
      unfold execOp
      simp only [ho]
      have e : (#[(0, y)].map fun (p : Nat × Operand) => match p with | (i, x) => (i, a.eval x)) = #[(0, .agg (wordC x))] := by simp [hy]
      rw [e]
      have hb' : (Instr.buildSlice 133 1 #[(0, .agg (wordC x))]).run Tryz.prog w = .ok (.slice (some ⟨w.heap.size, 0, none⟩) 1 1) (w.alloc (.cells (wordC x) 135)) := hb
      simp [hb']
    rw [he]
    exact hK _ _ h
theorem ownsRow_base {w : World} {B B' : Nat} {e : TypeId} {size : Nat} {v : Value} {n : Nat} {xs : List Value} (h : w.ownsRow B e size v n xs) (hB : B' ≤ B) : w.ownsRow B' e size v n xs :=
  ⟨h.1, h.2.imp id fun ⟨g, cap, cur, h1, h2, h3⟩ => ⟨g, cap, cur, h1, Nat.le_trans hB h2, h3⟩⟩
/-- numbers, bits that lie one behind the other -/
def NumAt (w : World) (g : Nat) (l : List W32) : Prop := g < w.heap.size ∧ ∀ j x, l[j]? = some x → w.cell? ⟨g, j, none⟩ = some (.int .u64 (x.toNat : Int))
def BitAt (w : World) (g : Nat) (l : List Bool) : Prop := g < w.heap.size ∧ ∀ j b, l[j]? = some b → w.cell? ⟨g, j, none⟩ = some (.bool b)
theorem NumAt.up {w w' : World} {g : Nat} {l : List W32} (h : NumAt w g l) (hb : Below w.heap.size w w') : NumAt w' g l := ⟨Nat.lt_of_lt_of_le h.1 hb.size, fun j x hx => (hb.cell (p := ⟨g, j, none⟩) h.1).trans (h.2 j x hx)⟩
theorem BitAt.up {w w' : World} {g : Nat} {l : List Bool} (h : BitAt w g l) (hb : Below w.heap.size w w') : BitAt w' g l := ⟨Nat.lt_of_lt_of_le h.1 hb.size, fun j x hx => (hb.cell (p := ⟨g, j, none⟩) h.1).trans (h.2 j x hx)⟩
theorem cells_other {g k : Nat} (h : k ≠ g) : ∀ (vs : List Value) (o : Nat) (w : World), (w.setCells g o vs).heap[k]? = w.heap[k]?
  | [], _, _ => rfl
  | v :: r, o, w => (cells_other h r (o + 1) _).trans (heap_setCell_other w ⟨g, o, none⟩ k v fun e => h e)
theorem cells_size (g : Nat) : ∀ (vs : List Value) (o : Nat) (w : World), (w.setCells g o vs).heap.size = w.heap.size
  | [], _, _ => rfl
  | v :: r, o, w => (cells_size g r (o + 1) _).trans (by simp)
/-- the sum's state: the table of steps, the bits, the eight words -/
structure SumI (w0 : World) (gk gb gh ch : Nat) (bits : List Bool) (H : List W32) (W : World) : Prop where
  bel : Below w0.heap.size w0 W
  tab : NumAt W gk ktab
  bit : BitAt W gb bits
  own : W.ownsRow w0.heap.size 135 32 (.slice (some ⟨gh, 0, none⟩) 8 ch) 8 (wls H)
  nk : gh ≠ gk
  nb : gh ≠ gb
section
variable {w0 W W' : World} {gk gb gh ch : Nat} {bits : List Bool} {H : List W32}
theorem SumI.up (h : SumI w0 gk gb gh ch bits H W) (hb : Below W.heap.size W W') : SumI w0 gk gb gh ch bits H W' :=
  ⟨h.bel.trans (hb.mono h.bel.size), h.tab.up hb, h.bit.up hb, ownsRow_below h.own hb, h.nk, h.nb⟩
theorem SumI.set (h : SumI w0 gk gb gh ch bits H W) {j : Nat} (hj : j < 8) (x : W32) : SumI w0 gk gb gh ch bits (H.set j x) (W.setCells gh (32 * j) (wl x)) := by
  have hl := h.own.lt gh rfl
  refine ⟨below_cells hl.1 _ _ h.bel, ⟨by rw [cells_size]; exact h.tab.1, fun i y hy => ?_⟩, ⟨by rw [cells_size]; exact h.bit.1, fun i y hy => ?_⟩, own_setw h.own hj x, h.nk, h.nb⟩
  · exact (World.cell?_of_block (cells_other h.nk.symm (wl x) _ W)).trans (h.tab.2 i y hy)
  · exact (World.cell?_of_block (cells_other h.nb.symm (wl x) _ W)).trans (h.bit.2 i y hy)
end
end Go.Proofs.YtpeepdkeicgkiaaGreatDoor
