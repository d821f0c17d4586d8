/- path.Is, walked. -/
import Derived.Test.YtaoejgnfoecpfaaDoorJk3
namespace Go.Proofs.YtaoejgnfoecpfaaDoor
set_option linter.unusedVariables false
set_option linter.unusedSimpArgs false
set_option linter.unusedSectionVars false
open Go.RowKit Go.Shelf
attribute [local go_sem] Oper.semAt_some

theorem oneNew_cell (W : World) (v : Value) (t : TypeId) : (W.alloc (.cells #[v] t)).cell? ⟨W.heap.size, 0, none⟩ = some v := by
  have := World.alloc_heap_new W (.cells #[v] t)
  unfold World.cell?
  dsimp only
  rw [this]
  rfl
theorem oneNew_free (W : World) (v : Value) (t : TypeId) : (W.alloc (.cells #[v] t)).frozen? ⟨W.heap.size, 0, none⟩ = false := by
  have := World.alloc_heap_new W (.cells #[v] t)
  unfold World.frozen?
  dsimp only
  rw [this]
  rfl

/-- between two rounds -/
structure Mid (w : World) (s : ByteArray) (rec : Loop) (r : ByteArray) (W : World) : Prop where
  asks : ∃ f, allFrom s.size s = allFrom f r ∧ r.size ≤ f
  feed : Feed (w.heap.size + 2) (w.heap.size + 1) (w.heap.size + 3) r W
  low : Below w.heap.size w W
  out : W.cell? ⟨w.heap.size, 0, none⟩ = some (.bool false)
  ofree : W.frozen? ⟨w.heap.size, 0, none⟩ = false
  loop : W.heap[w.heap.size + 5]? = some (.loop rec)
  mark : W.heap[w.heap.size + 4]? = some (.deferred (some []))
/-- a round has left -/
structure Left (w : World) (s : ByteArray) (rec : Loop) (W : World) : Prop where
  no : allFrom s.size s = false
  low : Below w.heap.size w W
  out : W.cell? ⟨w.heap.size, 0, none⟩ = some (.bool false)
  loop : W.heap[w.heap.size + 5]? = some (.loop { rec with state := .done, pending := some .ret })
  mark : W.heap[w.heap.size + 4]? = some (.deferred (some []))
theorem Mid.same {w : World} {s : ByteArray} {rec : Loop} {r : ByteArray} {W W' : World} (h : Mid w s rec r W) (hk : ∀ k, k < w.heap.size + 5 → W'.heap[k]? = W.heap[k]?) (hl : W'.heap[w.heap.size + 5]? = some (.loop rec)) (hb : Below w.heap.size w W') : Mid w s rec r W' := by
  have hc : ∀ (b : Nat), b < w.heap.size + 5 → W'.cell? ⟨b, 0, none⟩ = W.cell? ⟨b, 0, none⟩ := fun b hb => World.cell?_of_block (hk b hb)
  have hf : ∀ (b : Nat), b < w.heap.size + 5 → W'.frozen? ⟨b, 0, none⟩ = W.frozen? ⟨b, 0, none⟩ := fun b hb => World.frozen?_of_block (hk b hb)
  obtain ⟨h1, ⟨g1, ⟨m, g2⟩, g3, g4, g5, g6⟩, h3, h4, h5, h6, h7⟩ := h
  exact ⟨h1, ⟨g1, ⟨m, (hc 0 (by omega)).trans g2⟩, (hc _ (by omega)).trans g3, (hc _ (by omega)).trans g4, (hf _ (by omega)).trans g5, (hc _ (by omega)).trans g6⟩, hb, (hc _ (by omega)).trans h4, (hf _ (by omega)).trans h5, hl, (hk _ (by omega)).trans h7⟩
theorem putObj_low {w W : World} (h : Below w.heap.size w W) {l : Nat} (hl : w.heap.size ≤ l) (o : Obj) : Below w.heap.size w (W.putObj l o) :=
  h.trans ⟨rfl, rfl, rfl, by simp, fun k hk => World.putObj_heap_other (by omega)⟩
set_option maxRecDepth 100000 in
theorem seq0_any (s sep : ByteArray) (w : World) :
    Calls Tryd.prog 97 #[.string s, .string sep, .int .i64 0] w fun e w' => e = .returned (.func (.func 118) #[] #[.pointer (some ⟨w.heap.size + 1, 0, none⟩), .pointer (some ⟨w.heap.size, 0, none⟩), .pointer (some ⟨w.heap.size + 2, 0, none⟩)]) ∧
      w' = ((w.alloc (.cells #[.string s] 9)).alloc (.cells #[.string sep] 9)).alloc (.cells #[.int .i64 0] 3) := by
  go_enter Tryd.func97, Tryd.ntmps97
  go_wp2
  go_ret
  exact ⟨rfl, rfl⟩
set_option maxRecDepth 100000 in
theorem seq_any (s sep : ByteArray) (w : World) :
    Calls Tryd.prog 62 #[.string s, .string sep] w fun e w' => e = .returned (.func (.func 118) #[] #[.pointer (some ⟨w.heap.size + 1, 0, none⟩), .pointer (some ⟨w.heap.size, 0, none⟩), .pointer (some ⟨w.heap.size + 2, 0, none⟩)]) ∧
      w' = ((w.alloc (.cells #[.string s] 9)).alloc (.cells #[.string sep] 9)).alloc (.cells #[.int .i64 0] 3) := by
  go_enter Tryd.func62, Tryd.ntmps62
  go_wp2_with fail
  refine (seq0_any s sep w).mono ?_
  rintro e w' ⟨rfl, rfl⟩
  go_wp2
  go_ret
  exact ⟨rfl, rfl⟩

set_option maxRecDepth 100000 in
set_option maxHeartbeats 3200000 in
theorem pis_any (s : ByteArray) (w : World) (he : Env w) (hs : s.size ≤ 1099511627776) :
    Calls Tryd.prog 15 #[.string s] w fun e w' => e = .returned (.bool (isPath s)) ∧ Below w.heap.size w w' := by
  refine (callsIn_wide (n := 8)).1 ?_
  refine callsIn_of_wp_marks Tryd.func15 rfl trivial ?_ rfl
  simp only [Tryd.ntmps15, List.size_toArray, List.length_cons, List.length_nil, Nat.reduceAdd, Nat.reduceSub, Array.replicate_succ, Array.replicate_zero, List.push_toArray, List.append_toArray, List.nil_append, List.cons_append]
  have HE := Lib.hid he
  have hcell := oneNew_cell w (.bool false) 4
  have hfree := oneNew_free w (.bool false) 4
  have HB0 := Lib.hid ((Below.refl w.heap.size w).alloc (Nat.le_refl _) (.cells #[.bool false] 4))
  by_cases hz : s.size ≤ 200
  · obtain ⟨⟨m, hm⟩, _⟩ := he
    have hm1 := HB0.out.cell (p := ⟨0, 0, none⟩) (cellLt hm)
    rw [hm] at hm1
    have hC := Tryd.strings_Count_any s slash m _ (by omega) hm1 (by decide)
    unfold slash at hC
    have HC := Lib.hid hC
    clear hC
    have hcl : Lib.countB s slash ≤ s.size + 1 := by unfold Lib.countB; exact Lib.count_le _ _
    unfold slash at hcl
    have h200 : ¬ (200 : Int) < (s.size : Int) := by omega
    by_cases hk : Lib.countB s slash < 8
    · have HF := Lib.hid (show isPath s = allFrom s.size s by unfold isPath; rw [decide_eq_true hz, decide_eq_true hk]; simp)
      unfold slash at hk
      generalize Lib.countB s ⟨#[47]⟩ = k at *
      have h8 : ¬ (8 : Int) ≤ (k : Int) := by omega
      gi_wp2
      refine ⟨trivial, (callsIn_wide.2 HC.out).mono ?_⟩
      rintro e w' ⟨rfl, rfl⟩
      gi_wp2
      refine ⟨trivial, (callsIn_wide.2 (seq_any s ⟨#[47]⟩ _)).mono ?_⟩
      rintro e w' ⟨rfl, rfl⟩
      gi_wp2
      obtain ⟨W0, hW0⟩ : ∃ W0, (((w.alloc (.cells #[.bool false] 4)).alloc (.cells #[.string s] 9)).alloc (.cells #[.string ⟨#[47]⟩] 9)).alloc (.cells #[.int .i64 0] 3) = W0 := ⟨_, rfl⟩
      have hz0 : W0.heap.size = w.heap.size + 4 := by rw [← hW0]; simp
      have g0 : W0.heap[w.heap.size]? = some (.cells #[.bool false] 4) := by
        rw [← hW0, Below.heap_alloc _ _ _ (by simp <;> omega), Below.heap_alloc _ _ _ (by simp <;> omega), Below.heap_alloc _ _ _ (by simp)]; exact World.alloc_heap_new w _
      have g1 : W0.heap[w.heap.size + 1]? = some (.cells #[.string s] 9) := by
        rw [← hW0, Below.heap_alloc _ _ _ (by simp <;> omega), Below.heap_alloc _ _ _ (by simp)]
        have := World.alloc_heap_new (w.alloc (.cells #[.bool false] 4)) (.cells #[.string s] 9)
        rwa [World.size_alloc] at this
      have g2 : W0.heap[w.heap.size + 2]? = some (.cells #[.string slash] 9) := by
        rw [← hW0, Below.heap_alloc _ _ _ (by simp)]
        have := World.alloc_heap_new ((w.alloc (.cells #[.bool false] 4)).alloc (.cells #[.string s] 9)) (.cells #[.string ⟨#[47]⟩] 9)
        rwa [World.size_alloc, World.size_alloc] at this
      have g3 : W0.heap[w.heap.size + 3]? = some (.cells #[.int .i64 0] 3) := by
        rw [← hW0]
        have := World.alloc_heap_new (((w.alloc (.cells #[.bool false] 4)).alloc (.cells #[.string s] 9)).alloc (.cells #[.string ⟨#[47]⟩] 9)) (.cells #[.int .i64 0] 3)
        rwa [World.size_alloc, World.size_alloc, World.size_alloc] at this
      have hb0 : Below w.heap.size w W0 := by rw [← hW0]; exact ((((Below.refl _ w).alloc (Nat.le_refl _) _).alloc (by simp) _).alloc (by simp <;> omega) _).alloc (by simp <;> omega) _
      rw [hW0]
      clear hW0
      refine range_open (gf := 118) (lb := #[.pointer (some ⟨w.heap.size + 1 + 1, 0, none⟩), .pointer (some ⟨w.heap.size + 1, 0, none⟩), .pointer (some ⟨w.heap.size + 1 + 2, 0, none⟩)]) rfl (enters_of Tryd.func118 (by kernel_rfl) rfl) ?_
      intro fn
      unfold begun
      rw [hz0]
      generalize hrec : recOf _ _ _ _ _ _ _ _ = rec
      obtain ⟨W1, hW1⟩ : ∃ W1, (W0.alloc (.deferred (some []))).alloc (.loop rec) = W1 := ⟨_, rfl⟩
      rw [hW1]
      have hk1 : ∀ k, k < w.heap.size + 4 → W1.heap[k]? = W0.heap[k]? := fun k hk => by
        rw [← hW1, Below.heap_alloc _ _ _ (by simp <;> omega), Below.heap_alloc _ _ _ (by omega)]
      have hk4 : W1.heap[w.heap.size + 4]? = some (.deferred (some [])) := by
        rw [← hW1, Below.heap_alloc _ _ _ (by simp <;> omega), ← hz0]; exact World.alloc_heap_new W0 _
      have hk5 : W1.heap[w.heap.size + 5]? = some (.loop rec) := by
        rw [← hW1]
        have := World.alloc_heap_new (W0.alloc (.deferred (some []))) (.loop rec)
        rwa [World.size_alloc, hz0] at this
      have hb1 : Below w.heap.size w W1 := by rw [← hW1]; exact (hb0.alloc (by omega) _).alloc (by simp <;> omega) _
      clear hW1
      have hM : Mid w s rec s W1 := by
        refine ⟨⟨s.size, rfl, Nat.le_refl _⟩, ⟨by omega, ⟨m, (hb1.cell (p := ⟨0, 0, none⟩) (cellLt hm)).trans hm⟩, ?_, ?_, ?_, ?_⟩, hb1, ?_, ?_, hk5, hk4⟩
        · simp [World.cell?, hk1, g2]
        · simp [World.cell?, hk1, g1]
        · simp [World.frozen?, hk1, g1]
        · simp [World.cell?, hk1, g3]
        · simp [World.cell?, hk1, g0]
        · simp [World.frozen?, hk1, g0]
      -- ONE ROUND
      have hround : ∀ (x r : ByteArray) (W : World), x.size ≤ 1099511627776 → (nameOk x = false → allFrom s.size s = false) → Mid w s rec r W → YieldAt Fence.wide (8 - 1 - 1) Tryd.prog (w.heap.size + 5) #[.string x] W fun e W' => (e = .returned (.bool true) ∧ Mid w s rec r W' ∧ nameOk x = true) ∨ (e = .returned (.bool false) ∧ Left w s rec W') := by
        intro x r W hx hno hM
        have hlt : w.heap.size + 5 < W.heap.size := (Array.getElem?_eq_some_iff.1 hM.loop).1
        have hy := run_yield (P := Tryd.prog) (args := #[.string x]) hM.loop (by rw [← hrec]; rfl)
        rw [← hrec] at hy
        refine ⟨fn, _, _, _, hy, roundIn_of_wpIn trivial ?_⟩
        dsimp only [recOf]
        have hl1 : (W.putObj (w.heap.size + 5) (.loop { rec with state := .busy })).heap[w.heap.size + 5]? = some (.loop { rec with state := .busy }) := World.putObj_heap_same hlt
        have hb2 : Below w.heap.size w (W.putObj (w.heap.size + 5) (.loop { rec with state := .busy })) := putObj_low hM.low (by omega) _
        have hN := pname_any x _ (HE.out.below hb2) hx
        have hbr := run_beginRound (P := Tryd.prog) hM.loop (by rw [← hrec]; rfl)
        have HO := Lib.hid (fun k (hk : k < w.heap.size + 5) => (World.putObj_heap_other (w := W) (r := w.heap.size + 5) (o := .loop { rec with state := .busy }) (k := k) (by omega)))
        have hz1 : (W.putObj (w.heap.size + 5) (.loop { rec with state := .busy })).heap.size = W.heap.size := World.putObj_size
        generalize W.putObj (w.heap.size + 5) (.loop { rec with state := .busy }) = V at *
        have HM := Lib.hid hM
        have HN := Lib.hid hN
        have HBR := Lib.hid hbr
        have HB2 := Lib.hid hb2
        have HL1 := Lib.hid hl1
        clear hM hN hbr hb2 hl1 hy
        gi_wp2
        refine ⟨_, HBR.out, ?_⟩
        gi_wp2
        refine ⟨trivial, (CallsIn.inRound _ (callsIn_wide.2 HN.out)).mono ?_⟩
        rintro e V2 ⟨rfl, hb3⟩
        have hk3 : ∀ k, k < w.heap.size + 5 → V2.heap[k]? = W.heap[k]? := fun k hk => (hb3.block k (by omega)).trans (HO.out k hk)
        have hl3 : V2.heap[w.heap.size + 5]? = some (.loop { rec with state := .busy }) := (hb3.block _ (by omega)).trans HL1.out
        have hlow : Below w.heap.size w V2 := HB2.out.trans (hb3.mono HB2.out.size)
        have hlt3 : w.heap.size + 5 < V2.heap.size := (Array.getElem?_eq_some_iff.1 hl3).1
        have hout : V2.cell? ⟨w.heap.size, 0, none⟩ = some (.bool false) := (World.cell?_of_block (hk3 w.heap.size (by omega))).trans HM.out.out
        have hofr : V2.frozen? ⟨w.heap.size, 0, none⟩ = false := (World.frozen?_of_block (hk3 w.heap.size (by omega))).trans HM.out.ofree
        have hmk : V2.heap[w.heap.size + 4]? = some (.deferred (some [])) := (hk3 _ (by omega)).trans HM.out.mark
        have hre : ({ rec with state := .ready, pending := none } : Loop) = rec := by rw [← hrec]; rfl
        have HK3 := Lib.hid hk3
        have HL3 := Lib.hid hl3
        have HLOW := Lib.hid hlow
        have HMK := Lib.hid hmk
        have HRE := Lib.hid hre
        clear hk3 hl3 hlow hmk hre hb3 hrec
        cases hok : nameOk x with
        | true =>
          clear hno
          gi_wp2
          refine ⟨_, _, run_endRound (P := Tryd.prog) none HL3.out, .inl ⟨rfl, HM.out.same (fun k hk => (World.putObj_heap_other (by omega)).trans (HK3.out k hk)) ?_ (putObj_low HLOW.out (by omega) _), hok⟩⟩
          rw [World.putObj_heap_same hlt3]
          exact congrArg (fun r => some (Obj.loop r)) HRE.out
        | false =>
          have HNO := Lib.hid (hno hok)
          clear hno hok
          gi_wp2
          have hks : ∀ k, k ≠ w.heap.size → (V2.setCell ⟨w.heap.size, 0, none⟩ (.bool false)).heap[k]? = V2.heap[k]? := fun k hk => Below.heap_setCell _ _ _ _ hk
          have hl4 := (hks (w.heap.size + 5) (by omega)).trans HL3.out
          have hlt4 := (Array.getElem?_eq_some_iff.1 hl4).1
          refine ⟨_, _, run_endRound (P := Tryd.prog) (some .ret) hl4, .inr ⟨rfl, HNO.out, putObj_low (HLOW.out.setCell (p := ⟨w.heap.size, 0, none⟩) (Nat.le_refl _) _) (by omega) _, ?_, ?_, ?_⟩⟩
          · rw [World.cell?_of_block (World.putObj_heap_other (by simp))]
            exact World.cell?_setCell_same' _ _ _ (by rw [hout]; rfl)
          · rw [World.putObj_heap_same hlt4]; rfl
          · rw [World.putObj_heap_other (by omega), hks _ (by omega)]; exact HMK.out
      refine (parts_in (8 - 1) (by decide) (w.heap.size + 5) (w.heap.size + 2) (w.heap.size + 1) (w.heap.size + 3) (Mid w s rec) (Left w s rec) (fun r W h => h.feed) ?_ ?_ ?_ s W1 hM).mono ?_
      · intro r W h hi
        refine hround r r W (by have := h.feed.len; omega) (fun hf => ?_) h
        obtain ⟨f, e1, _⟩ := h.asks
        rw [e1, allFrom_last f r hi, hf]
      · intro r W i h hi hi1
        refine hround _ r W (by rw [ByteArray.size_extract]; have := h.feed.len; omega) (fun hf => ?_) h
        obtain ⟨f, e1, e2⟩ := h.asks
        obtain ⟨g, e3, _⟩ := allFrom_cut f r i hi e2 hi1
        rw [e1, e3, hf]; rfl
      · intro r W i h hi hi1 hok
        obtain ⟨⟨f, e1, e2⟩, ⟨a1, ⟨m', a2⟩, a3, a4, a5, a6⟩, h3, h4, h5, h6, h7⟩ := h
        obtain ⟨g, e3, e4⟩ := allFrom_cut f r i hi e2 hi1
        have hks : ∀ k, k ≠ w.heap.size + 1 → (W.setCell ⟨w.heap.size + 1, 0, none⟩ (.string (r.extract (i + 1) r.size))).heap[k]? = W.heap[k]? := fun k hk => Below.heap_setCell _ _ _ _ hk
        have hkc : ∀ b, b ≠ w.heap.size + 1 → (W.setCell ⟨w.heap.size + 1, 0, none⟩ (.string (r.extract (i + 1) r.size))).cell? ⟨b, 0, none⟩ = W.cell? ⟨b, 0, none⟩ := fun b hb => World.cell?_of_block (hks b hb)
        refine ⟨⟨g, by rw [e1, e3, hok]; rfl, e4⟩, ⟨by rw [ByteArray.size_extract]; omega, ⟨m', (hkc _ (by omega)).trans a2⟩, (hkc _ (by omega)).trans a3, World.cell?_setCell_same' _ _ _ (by rw [a4]; rfl), by rw [World.frozen?_setCell]; exact a5, (hkc _ (by omega)).trans a6⟩, h3.setCell (by simp) _, (hkc _ (by omega)).trans h4, by rw [World.frozen?_setCell]; exact h5, (hks _ (by omega)).trans h6, (hks _ (by omega)).trans h7⟩
      · rintro e W2 ⟨⟨v, rfl⟩, (⟨r, h, hi, hok⟩ | h)⟩
        · have hend := run_endLoop (P := Tryd.prog) h.loop (by rw [← hrec]; simp [recOf])
          obtain ⟨f, e1, _⟩ := h.asks
          have HANS := Lib.hid (show isPath s = true by rw [HF.out, e1, allFrom_last f r hi, hok])
          have hc4 : (W2.putObj (w.heap.size + 5) (.loop { rec with state := .exhausted })).cell? ⟨w.heap.size, 0, none⟩ = some (.bool false) := (World.cell?_of_block (World.putObj_heap_other (by simp))).trans h.out
          have hf4 : (W2.putObj (w.heap.size + 5) (.loop { rec with state := .exhausted })).frozen? ⟨w.heap.size, 0, none⟩ = false := (World.frozen?_of_block (World.putObj_heap_other (by simp))).trans h.ofree
          have hm4 : (W2.putObj (w.heap.size + 5) (.loop { rec with state := .exhausted })).heap[w.heap.size + 4]? = some (.deferred (some [])) := (World.putObj_heap_other (by omega)).trans h.mark
          have hb4 : Below w.heap.size w (W2.putObj (w.heap.size + 5) (.loop { rec with state := .exhausted })) := putObj_low h.low (by omega) _
          have hp : rec.pending = none := by rw [← hrec]; rfl
          generalize W2.putObj (w.heap.size + 5) (.loop { rec with state := .exhausted }) = W4 at *
          rw [hp] at hend
          refine ⟨none, _, hend, ?_⟩
          clear hend h hrec
          have HM4 := Lib.hid hm4
          have HB4 := Lib.hid hb4
          clear hm4 hb4
          gi_wp2
          have hm5 := (KeepsOthers.setCell W4 ⟨w.heap.size, 0, none⟩ (.bool true)).same (w.heap.size + 4) _ HM4.out rfl
          have hc5 : ((W4.setCell ⟨w.heap.size, 0, none⟩ (.bool true)).putObj (w.heap.size + 4) (.deferred none)).cell? ⟨w.heap.size, 0, none⟩ = some (.bool true) := (World.cell?_of_block (World.putObj_heap_other (by simp))).trans (World.cell?_setCell_same' _ _ _ (by rw [hc4]; rfl))
          refine ⟨by simp, .inl ⟨_, _, rfl, run_takeDeferred hm5, ?_⟩⟩
          refine ⟨.bool true, ?_, by rw [HANS.out], putObj_low (HB4.out.setCell (p := ⟨w.heap.size, 0, none⟩) (Nat.le_refl _) _) (by omega) _⟩
          simp [results, Tryd.f15, go_sem, hc5]
        · have hend := run_endLoop (P := Tryd.prog) h.loop (by simp)
          have HANS := Lib.hid (show isPath s = false by rw [HF.out, h.no])
          have hc4 : (W2.putObj (w.heap.size + 5) (.loop { rec with state := .exhausted, pending := some .ret })).cell? ⟨w.heap.size, 0, none⟩ = some (.bool false) := (World.cell?_of_block (World.putObj_heap_other (by simp))).trans h.out
          have hm4 : (W2.putObj (w.heap.size + 5) (.loop { rec with state := .exhausted, pending := some .ret })).heap[w.heap.size + 4]? = some (.deferred (some [])) := (World.putObj_heap_other (by omega)).trans h.mark
          have hb4 : Below w.heap.size w (W2.putObj (w.heap.size + 5) (.loop { rec with state := .exhausted, pending := some .ret })) := putObj_low h.low (by omega) _
          refine ⟨some .ret, _, hend, ?_⟩
          clear hend h hrec
          show (Code.ret).wpIn Fence.wide 8 Tryd.prog _ _ _
          generalize W2.putObj (w.heap.size + 5) (.loop { rec with state := .exhausted, pending := some .ret }) = W4 at *
          have HM4 := Lib.hid hm4
          have HB4 := Lib.hid hb4
          clear hm4 hb4
          gi_wp2
          have hc5 : (W4.putObj (w.heap.size + 4) (.deferred none)).cell? ⟨w.heap.size, 0, none⟩ = some (.bool false) := (World.cell?_of_block (World.putObj_heap_other (by simp))).trans hc4
          refine ⟨by simp, .inl ⟨_, _, rfl, run_takeDeferred HM4.out, ?_⟩⟩
          refine ⟨.bool false, ?_, by rw [HANS.out], putObj_low HB4.out (by omega) _⟩
          simp [results, Tryd.f15, go_sem, hc5]
    · have HF := Lib.hid (show isPath s = false by unfold isPath; rw [decide_eq_false hk]; simp)
      unfold slash at hk
      generalize Lib.countB s ⟨#[47]⟩ = k at *
      have h8 : (8 : Int) ≤ (k : Int) := by omega
      gi_wp2
      refine ⟨trivial, (callsIn_wide.2 HC.out).mono ?_⟩
      rintro e w' ⟨rfl, rfl⟩
      gi_wp2
      exact ⟨.bool false, by simp [results, Tryd.f15, go_sem, hcell], by rw [HF.out], HB0.out⟩
  · have HF := Lib.hid (show isPath s = false by unfold isPath; rw [decide_eq_false hz]; simp)
    have h200 : (200 : Int) < (s.size : Int) := by omega
    gi_wp2
    refine ⟨trivial, ?_⟩
    gi_wp2
    exact ⟨.bool false, by simp [results, Tryd.f15, go_sem, hcell], by rw [HF.out], HB0.out⟩
end Go.Proofs.YtaoejgnfoecpfaaDoor
