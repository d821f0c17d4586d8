/- Folding: the program's. path.Fold. Bytes as a text (stand-in at this seat: no Write of layer 11 here). A decoded rune, written, is the bytes that it was read from. The document's Fold. Folding keeps the runes: a folded text is decoded, rune by rune, as the text itself. Folding, counting and cutting go together: plain laws of layer 11. Folding goes part by part: a folded path is a path. What is in a folder stands together behind it: the plain law of a tree's nodes. CellarerNodes: its walk. -/
import Derived.Test.YtaoejgnfoecpfaaDoorJt5
import Derived.WalkSmall
import Derived.Test.YtaoejgnfoecpfaaDoorJt6
import Derived.Test.YtaoejgnfoecpfaaDoorJt8
import Derived.Test.YtaoejgnfoecpfaaDoorJt20
import Derived.Test.YtaoejgnfoecpfaaDoorJt17
import Derived.Test.YtaoejgnfoecpfaaDoorJe1
namespace Go.Proofs.YtaoejgnfoecpfaaDoor
set_option linter.unusedVariables false
set_option linter.unusedSimpArgs false
set_option linter.unusedSectionVars false
open Go.RowKit

/-- the small letter of a great one -/
def smallN (c : Int) : Int :=
  if (65 ≤ c ∧ c ≤ 90) ∨ (192 ≤ c ∧ c ≤ 222 ∧ c ≠ 215) ∨ (913 ≤ c ∧ c ≤ 937 ∧ c ≠ 930) ∨ (1040 ≤ c ∧ c ≤ 1071) then c + 32
  else if 1024 ≤ c ∧ c ≤ 1039 then c + 80 else c
theorem smallN_range (c : Int) (h0 : 0 ≤ c) (h1 : c ≤ 1114111) : 0 ≤ smallN c ∧ smallN c ≤ 1114111 := by
  unfold smallN
  split
  · omega
  · split <;> omega
set_option maxRecDepth 100000 in
set_option maxHeartbeats 3200000 in
theorem small_any (c : Int) (w : World) (h0 : 0 ≤ c) (h1 : c ≤ 1114111) :
    Calls Tryd.prog 72 #[.int .i32 c] w fun e w' => e = .returned (.int .i32 (smallN c)) ∧ w = w' := by
  have key : ∀ r, smallN c = r → (Calls Tryd.prog 72 #[.int .i32 c] w fun e w' => e = .returned (.int .i32 r) ∧ w = w') → Calls Tryd.prog 72 #[.int .i32 c] w fun e w' => e = .returned (.int .i32 (smallN c)) ∧ w = w' := fun r e h => by rw [e]; exact h
  rcases (by omega : c ≤ 64 ∨ (65 ≤ c ∧ c ≤ 90) ∨ (91 ≤ c ∧ c ≤ 191) ∨ (192 ≤ c ∧ c ≤ 214) ∨ c = 215 ∨ (216 ≤ c ∧ c ≤ 222) ∨ (223 ≤ c ∧ c ≤ 912) ∨ (913 ≤ c ∧ c ≤ 929) ∨ c = 930 ∨ (931 ≤ c ∧ c ≤ 937) ∨ (938 ≤ c ∧ c ≤ 1023) ∨ (1024 ≤ c ∧ c ≤ 1039) ∨ (1040 ≤ c ∧ c ≤ 1071) ∨ 1072 ≤ c) with g1 | ⟨g1, g2⟩ | ⟨g1, g2⟩ | ⟨g1, g2⟩ | rfl | ⟨g1, g2⟩ | ⟨g1, g2⟩ | ⟨g1, g2⟩ | rfl | ⟨g1, g2⟩ | ⟨g1, g2⟩ | ⟨g1, g2⟩ | ⟨g1, g2⟩ | g1
  · refine key c (by unfold smallN; rw [if_neg (by omega), if_neg (by omega)]) ?_
    clear key
    go_enter Tryd.func72, Tryd.ntmps72
    go_wp2
    go_ret
    exact ⟨rfl, rfl⟩
  · refine key (c + 32) (by unfold smallN; rw [if_pos (by omega)]) ?_
    clear key
    have q1 : (c != 215) = true := by simp; omega
    have q2 : (c != 930) = true := by simp; omega
    go_enter Tryd.func72, Tryd.ntmps72
    go_wp2
    go_ret
    exact ⟨rfl, rfl⟩
  · refine key c (by unfold smallN; rw [if_neg (by omega), if_neg (by omega)]) ?_
    clear key
    have q1 : (c != 215) = true := by simp; omega
    have q2 : (c != 930) = true := by simp; omega
    go_enter Tryd.func72, Tryd.ntmps72
    go_wp2
    go_ret
    exact ⟨rfl, rfl⟩
  · refine key (c + 32) (by unfold smallN; rw [if_pos (by omega)]) ?_
    clear key
    have q1 : (c != 215) = true := by simp; omega
    have q2 : (c != 930) = true := by simp; omega
    go_enter Tryd.func72, Tryd.ntmps72
    go_wp2
    go_ret
    exact ⟨rfl, rfl⟩
  · refine key 215 (by decide) ?_
    clear key h0 h1
    go_enter Tryd.func72, Tryd.ntmps72
    go_wp2
    go_ret
    exact ⟨rfl, rfl⟩
  · refine key (c + 32) (by unfold smallN; rw [if_pos (by omega)]) ?_
    clear key
    have q1 : (c != 215) = true := by simp; omega
    have q2 : (c != 930) = true := by simp; omega
    go_enter Tryd.func72, Tryd.ntmps72
    go_wp2
    go_ret
    exact ⟨rfl, rfl⟩
  · refine key c (by unfold smallN; rw [if_neg (by omega), if_neg (by omega)]) ?_
    clear key
    have q1 : (c != 215) = true := by simp; omega
    have q2 : (c != 930) = true := by simp; omega
    go_enter Tryd.func72, Tryd.ntmps72
    go_wp2
    go_ret
    exact ⟨rfl, rfl⟩
  · refine key (c + 32) (by unfold smallN; rw [if_pos (by omega)]) ?_
    clear key
    have q1 : (c != 215) = true := by simp; omega
    have q2 : (c != 930) = true := by simp; omega
    go_enter Tryd.func72, Tryd.ntmps72
    go_wp2
    go_ret
    exact ⟨rfl, rfl⟩
  · refine key 930 (by decide) ?_
    clear key h0 h1
    go_enter Tryd.func72, Tryd.ntmps72
    go_wp2
    go_ret
    exact ⟨rfl, rfl⟩
  · refine key (c + 32) (by unfold smallN; rw [if_pos (by omega)]) ?_
    clear key
    have q1 : (c != 215) = true := by simp; omega
    have q2 : (c != 930) = true := by simp; omega
    go_enter Tryd.func72, Tryd.ntmps72
    go_wp2
    go_ret
    exact ⟨rfl, rfl⟩
  · refine key c (by unfold smallN; rw [if_neg (by omega), if_neg (by omega)]) ?_
    clear key
    have q1 : (c != 215) = true := by simp; omega
    have q2 : (c != 930) = true := by simp; omega
    go_enter Tryd.func72, Tryd.ntmps72
    go_wp2
    go_ret
    exact ⟨rfl, rfl⟩
  · refine key (c + 80) (by unfold smallN; rw [if_neg (by omega), if_pos (by omega)]) ?_
    clear key
    have q1 : (c != 215) = true := by simp; omega
    have q2 : (c != 930) = true := by simp; omega
    go_enter Tryd.func72, Tryd.ntmps72
    go_wp2
    go_ret
    exact ⟨rfl, rfl⟩
  · refine key (c + 32) (by unfold smallN; rw [if_pos (by omega)]) ?_
    clear key
    have q1 : (c != 215) = true := by simp; omega
    have q2 : (c != 930) = true := by simp; omega
    go_enter Tryd.func72, Tryd.ntmps72
    go_wp2
    go_ret
    exact ⟨rfl, rfl⟩
  · refine key c (by unfold smallN; rw [if_neg (by omega), if_neg (by omega)]) ?_
    clear key
    go_enter Tryd.func72, Tryd.ntmps72
    go_wp2
    go_ret
    exact ⟨rfl, rfl⟩
end Go.Proofs.YtaoejgnfoecpfaaDoor
namespace Go.Proofs.YtaoejgnfoecpfaaDoor
set_option linter.unusedVariables false
set_option linter.unusedSimpArgs false
set_option linter.unusedSectionVars false
open Go.RowKit

/-- what a rune becomes -/
def pieceL (s : ByteArray) (p : Nat) : List UInt8 := if brokenB s p = true then [UInt8.ofNat (bAt s p)] else Lib.encodeRune (smallN (Utf8.decode s p).1)
def foldFrom (s : ByteArray) : Nat → Nat → List UInt8
  | 0, _ => []
  | f + 1, p => if p < s.size then pieceL s p ++ foldFrom s f (p + (Utf8.decode s p).2) else []
def foldR (s : ByteArray) : ByteArray := ⟨(foldFrom s s.size 0).toArray⟩
theorem foldFrom_end (s : ByteArray) (f p : Nat) (h : ¬ p < s.size) : foldFrom s f p = [] := by
  cases f with
  | zero => rfl
  | succ f => simp [foldFrom, h]
theorem foldFrom_step (s : ByteArray) (f p : Nat) (h : p < s.size) (hf : s.size ≤ p + f) : ∃ g, foldFrom s f p = pieceL s p ++ foldFrom s g (p + (Utf8.decode s p).2) ∧ s.size ≤ p + (Utf8.decode s p).2 + g := by
  obtain ⟨g, rfl⟩ : ∃ g, f = g + 1 := ⟨f - 1, by omega⟩
  have := (decode_fits s p h).1
  exact ⟨g, by simp [foldFrom, h], by omega⟩
theorem row_below {B : Nat} {e : TypeId} {k : Nat} {v : Value} {n : Nat} {xs : List Value} {w w' : World} (h : w.ownsRow B e k v n xs) (hb : Below w.heap.size w w') : w'.ownsRow B e k v n xs :=
  h.kept (row := none) ⟨hb.os, hb.tape, hb.output, hb.size, fun j hj _ => hb.block j hj⟩ (by cases hv : v.ownBlock <;> simp)
theorem pieceL_len (s : ByteArray) (p : Nat) : 1 ≤ (pieceL s p).length ∧ (pieceL s p).length ≤ 4 := by
  unfold pieceL
  split
  · simp
  · have := Lib.encodeRuneZ_length (smallN (Utf8.decode s p).1)
    simpa [Lib.encodeRune] using this
theorem infoByte : (Tryd.prog.info? 5).map (fun i => (i.zero, i.size, i.bytes)) = some (some (.int .u8 0), 1, 1) := by kernel_rfl
theorem cells_rune (r : Int) : Lib.runeCells r = bytesV (Lib.encodeRune r) := (Lib.byteCells_encodeRune r).symm

set_option maxRecDepth 100000 in
set_option maxHeartbeats 800000 in
theorem pfold_any (s : ByteArray) (w : World) (he : Env w) (hs : s.size ≤ 1099511627776) :
    Calls Tryd.prog 21 #[.string s] w fun e w' => e = .returned (.string (foldR s)) ∧ Below w.heap.size w w' := by
  have HE := Lib.hid fun W (hb : Below w.heap.size w W) => he.below hb
  clear he
  go_enter Tryd.func21, Tryd.ntmps21
  go_wp2
  go_loopw [3] (fun v wr => ∃ (vv : Value) (p f : Nat) (l : List UInt8), vv = v ∧ wr.heap[w.heap.size]? = some (.stringIter s p) ∧ Below w.heap.size w wr ∧ wr.ownsRow (w.heap.size + 1) 5 1 v l.length (bytesV l) ∧ l ++ foldFrom s f p = foldFrom s s.size 0 ∧ s.size ≤ p + f ∧ l.length ≤ 4 * p ∧ p ≤ s.size) (fun _ wr => s.size - wr.iterPos w.heap.size)
  case atStart => exact ⟨_, 0, s.size, [], rfl, World.iter_heap w s 0, (Below.refl _ w).alloc (Nat.le_refl _) _, ⟨rfl, Or.inl ⟨rfl, rfl⟩⟩, rfl, by omega, by simp, by omega⟩
  case round =>
    obtain ⟨v, p, f, l, rfl, hit, hb, hown, hn, hf, hll, hps⟩ := hrel
    have HPOS := Lib.hid (show wr.iterPos w.heap.size = p by unfold World.iterPos; rw [hit])
    have HIT := Lib.hid hit
    have HN := Lib.hid hn
    clear hn
    by_cases hp : p < s.size
    · have hnx : ∀ ty, (Instr.next (.pointer (some ⟨w.heap.size, 0, none⟩)) true ty).run Tryd.prog wr = _ := fun ty => Lib.run_next_any_at wr w.heap.size s p ty HIT.out hp
      obtain ⟨f1, f2, f3, f4⟩ := decode_fits s p hp
      have HW1 := Lib.hid (Lib.iterAt_heap wr w.heap.size s p (p + (Utf8.decode s p).2) hit)
      have HB1 := Lib.hid (Lib.below_iterAt hb (Nat.le_refl _) s (p + (Utf8.decode s p).2))
      have HOW := Lib.hid (ownsRow_iterAt hown (k := w.heap.size) (by omega) s (p + (Utf8.decode s p).2))
      have HBR := Lib.hid fun W (h : Env W) => broken_any s p W h hs hp
      obtain ⟨g, e2, e3⟩ := foldFrom_step s f p hp hf
      have HG := Lib.hid e2
      have HPL := Lib.hid (pieceL_len s p)
      have HPD := Lib.hid (show pieceL s p = if brokenB s p = true then [UInt8.ofNat (bAt s p)] else Lib.encodeRune (smallN (Utf8.decode s p).1) from rfl)
      have HSB := Lib.hid (bAt_get s p hp)
      have HLT := Lib.hid (bAt_lt s p)
      clear e2 hit hb hown
      generalize (Utf8.decode s p).1 = c at *
      generalize (Utf8.decode s p).2 = n at *
      have HE2 := Lib.hid (HE.out _ HB1.out)
      generalize hW2 : wr.iterAt w.heap.size s (p + n) = W2 at *
      clear hW2
      go_wp2_with fail
      refine (HBR.out _ HE2.out).mono ?_
      rintro e w4 ⟨rfl, hb4⟩
      have hown4 := row_below HOW.out hb4
      have HIT4 := Lib.hid ((hb4.block w.heap.size (Array.getElem?_eq_some_iff.1 HW1.out).1).trans HW1.out)
      have HB4 := Lib.hid (HB1.out.trans (hb4.mono HB1.out.size))
      have hsz : w.heap.size + 1 ≤ w4.heap.size := (Array.getElem?_eq_some_iff.1 HIT4.out).1
      clear hb4 HBR
      cases hbr : brokenB s p with
      | true =>
        have HP := Lib.hid (show pieceL s p = [UInt8.ofNat (bAt s p)] by rw [HPD.out, if_pos hbr])
        clear hbr HPD
        go_wp2_with (at_builtin; refine wpList_app1 rfl _ _ 46 rfl (w.heap.size + 1) 5 Tryd.underlying46 infoByte rfl (by decide) _ _ _ rfl hown4 _ rfl rfl (oneCell_int _ _) ?_ ?_ ?_ ?_; omega; omega; omega; intro g1 cap1 w5 hown' hgr hbw _)
        go_roundw
        case rel =>
          refine ⟨_, p + n, g, l ++ [UInt8.ofNat (bAt s p)], rfl, (hbw.block _ (by omega)).trans HIT4.out, HB4.out.trans (hbw.mono (by omega)), ?_, ?_, e3, by simp; omega, f3⟩
          · rw [bytesV_app]
            have e : bytesV [UInt8.ofNat (bAt s p)] = [Value.int .u8 (s[p].toNat : Int)] := by
              rw [HSB.out]
              simp only [bytesV, List.map_cons, List.map_nil]
              congr 3
              simp only [UInt8.toNat_ofNat']
              exact Nat.mod_eq_of_lt HLT.out
            rw [e]
            simpa using hown'
          · rw [List.append_assoc, ← HP.out, ← HG.out]; exact HN.out
        case measure =>
          have : w5.iterPos w.heap.size = p + n := by unfold World.iterPos; rw [hbw.block _ (by omega), HIT4.out]
          rw [this, HPOS.out]; omega
      | false =>
        have HP := Lib.hid (show pieceL s p = Lib.encodeRune (smallN c) by rw [HPD.out, if_neg (by rw [hbr]; simp)])
        have hr := smallN_range c (by omega) (by omega)
        have hs1 := small_any c w4 (by omega) (by omega)
        have hap := Tryd.utf8_AppendRune_plain (w.heap.size + 1) v l.length (bytesV l) (smallN c) (by omega) (by omega) w4 hown4 (by omega) hsz
        have HS1 := Lib.hid hs1
        have HAP := Lib.hid hap
        have hown5 := Lib.hid hown4
        clear hbr HPD hs1 hap hown4
        generalize smallN c = q at *
        go_wp2_with fail
        refine HS1.out.mono ?_
        rintro e w5 ⟨rfl, rfl⟩
        go_wp2_with fail
        refine HAP.out.mono ?_
        rintro e w5 ⟨v', rfl, hown', ⟨o, hgr⟩⟩
        have hbw : Below (w.heap.size + 1) w4 w5 := ((Below.refl _ w4).alloc hsz o).grown hgr (by simp; omega) (fun k hk => (hown5.out.lt k hk).1)
        have HOWN := Lib.hid hown'
        have HBW := Lib.hid hbw
        clear hown' hgr hbw
        go_wp2
        go_roundw
        case rel =>
          refine ⟨_, p + n, g, l ++ Lib.encodeRune q, rfl, (HBW.out.block _ (by omega)).trans HIT4.out, HB4.out.trans (HBW.out.mono (by omega)), ?_, ?_, e3, ?_, f3⟩
          · have := HOWN.out
            rw [cells_rune] at this
            rw [bytesV_app, List.length_append, ← bytesV_len (Lib.encodeRune q)]
            exact this
          · rw [List.append_assoc, ← HP.out, ← HG.out]; exact HN.out
          · have := HPL.out.2
            rw [HP.out] at this
            rw [List.length_append]; omega
        case measure =>
          have : w5.iterPos w.heap.size = p + n := by unfold World.iterPos; rw [HBW.out.block _ (by omega), HIT4.out]
          rw [this, HPOS.out]; omega
    · have hnx : ∀ ty, (Instr.next (.pointer (some ⟨w.heap.size, 0, none⟩)) true ty).run Tryd.prog wr = _ := fun ty => Lib.run_next_end_at wr w.heap.size s p ty HIT.out hp
      have HF := Lib.hid (foldFrom_end s f p hp)
      have hcv := run_convert_own 46 9 5 Tryd.underlying46 Tryd.underlying5 Tryd.underlying9 hown
      have HB := Lib.hid hb
      clear hb hit hown
      go_wp2
      go_ret
      exact ⟨ret_str (by unfold foldR; rw [← HN.out, HF.out, List.append_nil]), HB.out⟩
end Go.Proofs.YtaoejgnfoecpfaaDoor
namespace Go.Proofs.YtaoejgnfoecpfaaDoor
set_option linter.unusedVariables false
set_option linter.unusedSimpArgs false
set_option linter.unusedSectionVars false
open Go.RowKit
end Go.Proofs.YtaoejgnfoecpfaaDoor
namespace Go.Proofs.YtaoejgnfoecpfaaDoor
set_option linter.unusedVariables false
set_option linter.unusedSimpArgs false
set_option linter.unusedSectionVars false
open Go.RowKit

theorem u8_of (z : Int) (n : Nat) (h : z = n) : z.toNat.toUInt8 = UInt8.ofNat n := by subst h; rfl
theorem enc_decF (b : Nat → Nat) (c : Nat → Bool) (hb : ∀ k, b k < 256) (hc : ∀ k, c k = true → b k / 64 = 2) (hne : decF b c ≠ (65533, 1)) :
    Lib.encodeRune ((decF b c).1 : Int) = (List.range (decF b c).2).map fun k => UInt8.ofNat (b k) := by
  have g0 := hb 0
  have g1 := hb 1
  have g2 := hb 2
  have g3 := hb 3
  unfold decF at hne ⊢
  by_cases q0 : b 0 < 128
  · rw [if_pos q0]
    unfold Lib.encodeRune
    rw [Lib.encodeRuneZ_one (by omega) (by omega)]
    simp only [List.map_cons, List.map_nil, List.range_one]
    rw [u8_of _ _ rfl]
  · rw [if_neg q0] at hne ⊢
    by_cases q1 : (b 0 / 32 == 6 && c 1) = true
    · rw [if_pos q1] at hne ⊢
      simp only [Bool.and_eq_true, beq_iff_eq] at q1
      have c1 := hc 1 q1.2
      by_cases r1 : 128 ≤ (b 0 % 32) * 64 + b 1 % 64
      · rw [if_pos r1]
        unfold Lib.encodeRune
        dsimp only
        rw [Lib.encodeRuneZ_two (by omega) (by omega)]
        simp only [List.map_cons, List.map_nil, show List.range 2 = [0, 1] from rfl]
        rw [u8_of _ (b 0) (by omega), u8_of _ (b 1) (by omega)]
      · rw [if_neg r1] at hne; exact absurd rfl hne
    · rw [if_neg q1] at hne ⊢
      by_cases q2 : (b 0 / 16 == 14 && c 1 && c 2) = true
      · rw [if_pos q2] at hne ⊢
        simp only [Bool.and_eq_true, beq_iff_eq] at q2
        have c1 := hc 1 q2.1.2
        have c2 := hc 2 q2.2
        by_cases r2 : (decide (2048 ≤ (b 0 % 16) * 4096 + (b 1 % 64) * 64 + b 2 % 64) && Utf8.valid ((b 0 % 16) * 4096 + (b 1 % 64) * 64 + b 2 % 64 : Nat)) = true
        · rw [if_pos r2]
          simp only [Bool.and_eq_true, decide_eq_true_eq, valid_iff] at r2
          unfold Lib.encodeRune
          dsimp only
          rw [Lib.encodeRuneZ_three (by omega)]
          simp only [List.map_cons, List.map_nil, show List.range 3 = [0, 1, 2] from rfl]
          rw [u8_of _ (b 0) (by omega), u8_of _ (b 1) (by omega), u8_of _ (b 2) (by omega)]
        · rw [if_neg r2] at hne; exact absurd rfl hne
      · rw [if_neg q2] at hne ⊢
        by_cases q3 : (b 0 / 8 == 30 && c 1 && c 2 && c 3) = true
        · rw [if_pos q3] at hne ⊢
          simp only [Bool.and_eq_true, beq_iff_eq] at q3
          have c1 := hc 1 q3.1.1.2
          have c2 := hc 2 q3.1.2
          have c3 := hc 3 q3.2
          by_cases r3 : (decide (65536 ≤ (b 0 % 8) * 262144 + (b 1 % 64) * 4096 + (b 2 % 64) * 64 + b 3 % 64) && Utf8.valid ((b 0 % 8) * 262144 + (b 1 % 64) * 4096 + (b 2 % 64) * 64 + b 3 % 64 : Nat)) = true
          · rw [if_pos r3]
            simp only [Bool.and_eq_true, decide_eq_true_eq, valid_iff] at r3
            unfold Lib.encodeRune
            dsimp only
            rw [Lib.encodeRuneZ_four (by omega) (by omega)]
            simp only [List.map_cons, List.map_nil, show List.range 4 = [0, 1, 2, 3] from rfl]
            rw [u8_of _ (b 0) (by omega), u8_of _ (b 1) (by omega), u8_of _ (b 2) (by omega), u8_of _ (b 3) (by omega)]
          · rw [if_neg r3] at hne; exact absurd rfl hne
        · rw [if_neg q3] at hne; exact absurd rfl hne
theorem enc_dec (s : ByteArray) (p : Nat) (hb : brokenB s p = false) : Lib.encodeRune ((Utf8.decode s p).1 : Int) = (List.range (Utf8.decode s p).2).map fun k => UInt8.ofNat (bAt s (p + k)) := by
  have hbb : Utf8.decode s p ≠ (65533, 1) := by simpa [brokenB] using hb
  rw [decode_F] at hbb ⊢
  refine enc_decF _ _ (fun k => bAt_lt s (p + k)) (fun k hk => ?_) hbb
  unfold contD at hk
  simp only [Bool.and_eq_true, beq_iff_eq] at hk
  exact hk.2
end Go.Proofs.YtaoejgnfoecpfaaDoor
namespace Go.Proofs.YtaoejgnfoecpfaaDoor
set_option linter.unusedVariables false
set_option linter.unusedSimpArgs false
set_option linter.unusedSectionVars false
open Go.RowKit

theorem take_bytes (s : ByteArray) (p n : Nat) (h : p + n ≤ s.size) : (s.extract p s.size).extract 0 n = strB ((List.range n).map fun k => UInt8.ofNat (bAt s (p + k))) := by
  apply ByteArray.ext
  apply Array.toList_inj.1
  apply List.ext_getElem
  · simp [strB, ByteArray.data_extract]
    have : s.data.size = s.size := rfl
    omega
  · intro i h1 h2
    simp [strB] at h2
    have hb := bAt_get s (p + i) (by omega)
    simp only [strB, List.getElem_map, List.getElem_range, Array.getElem_toList, ByteArray.data_extract, Array.getElem_extract, Nat.zero_add]
    rw [← hb]
    simp
    rfl
theorem strB_app (l m : List UInt8) : strB l ++ strB m = strB (l ++ m) := by
  apply ByteArray.ext
  apply Array.toList_inj.1
  simp [strB]
end Go.Proofs.YtaoejgnfoecpfaaDoor
namespace Go.Proofs.YtaoejgnfoecpfaaDoor
set_option linter.unusedVariables false
set_option linter.unusedSimpArgs false
set_option linter.unusedSectionVars false
open Go.RowKit

theorem decF_congr2 {b b' : Nat → Nat} {c c' : Nat → Bool} (h0 : b 0 = b' 0) (h1 : c 1 = c' 1) (g1 : c' 1 = true → b 1 = b' 1 ∧ c 2 = c' 2) (g2 : c' 1 = true → c' 2 = true → b 2 = b' 2 ∧ c 3 = c' 3) (g3 : c' 1 = true → c' 2 = true → c' 3 = true → b 3 = b' 3) : decF b c = decF b' c' := by
  unfold decF
  rw [h0, h1]
  cases e1 : c' 1 with
  | false => simp
  | true =>
    obtain ⟨f1, f2⟩ := g1 e1
    rw [f1, f2]
    cases e2 : c' 2 with
    | false => simp
    | true =>
      obtain ⟨f3, f4⟩ := g2 e1 e2
      rw [f3, f4]
      cases e3 : c' 3 with
      | false => simp
      | true => rw [g3 e1 e2 e3]
theorem contD_lt {s : ByteArray} {i k : Nat} (h : contD s i k = true) : i + k < s.size ∧ bAt s (i + k) / 64 = 2 := by
  unfold contD at h
  simpa only [Bool.and_eq_true, decide_eq_true_eq, beq_iff_eq] using h
/-- a byte in a rune's midst stands alone as a broken one -/
theorem cont_broken {s : ByteArray} {p : Nat} (h : bAt s p / 64 = 2) : Utf8.decode s p = (65533, 1) := by
  rw [decode_F]
  unfold decF
  simp only [Nat.add_zero]
  rw [if_neg (by omega), if_neg (by simp only [Bool.and_eq_true, beq_iff_eq]; omega), if_neg (by simp only [Bool.and_eq_true, beq_iff_eq]; omega), if_neg (by simp only [Bool.and_eq_true, beq_iff_eq]; omega)]
/-- the first byte of a whole rune is none of a rune's midst -/
theorem head_byte {s : ByteArray} {p : Nat} (h : Utf8.decode s p ≠ (65533, 1)) : bAt s p / 64 ≠ 2 := fun e => h (cont_broken e)
theorem decode_range {s : ByteArray} {p : Nat} (h : Utf8.decode s p ≠ (65533, 1)) :
    ((Utf8.decode s p).2 = 1 ∧ (Utf8.decode s p).1 < 128) ∨ ((Utf8.decode s p).2 = 2 ∧ 128 ≤ (Utf8.decode s p).1 ∧ (Utf8.decode s p).1 < 2048) ∨
    ((Utf8.decode s p).2 = 3 ∧ 2048 ≤ (Utf8.decode s p).1 ∧ (Utf8.decode s p).1 < 65536 ∧ ((Utf8.decode s p).1 < 55296 ∨ 57344 ≤ (Utf8.decode s p).1)) ∨
    ((Utf8.decode s p).2 = 4 ∧ 65536 ≤ (Utf8.decode s p).1 ∧ (Utf8.decode s p).1 ≤ 1114111) := by
  rw [decode_F] at h ⊢
  unfold decF at h ⊢
  split
  · next q0 => exact .inl ⟨rfl, q0⟩
  · next q0 =>
    rw [if_neg q0] at h
    split
    · next q1 =>
      rw [if_pos q1] at h
      split
      · next r1 => exact .inr (.inl ⟨rfl, r1, by simp only; omega⟩)
      · next r1 => rw [if_neg r1] at h; exact absurd rfl h
    · next q1 =>
      rw [if_neg q1] at h
      split
      · next q2 =>
        rw [if_pos q2] at h
        split
        · next r2 =>
          simp only [Bool.and_eq_true, decide_eq_true_eq, valid_iff] at r2
          exact .inr (.inr (.inl ⟨rfl, r2.1, by simp only; omega, by simp only; omega⟩))
        · next r2 => rw [if_neg r2] at h; exact absurd rfl h
      · next q2 =>
        rw [if_neg q2] at h
        split
        · next q3 =>
          rw [if_pos q3] at h
          split
          · next r3 =>
            simp only [Bool.and_eq_true, decide_eq_true_eq, valid_iff] at r3
            exact .inr (.inr (.inr ⟨rfl, r3.1, by simp only; omega⟩))
          · next r3 => rw [if_neg r3] at h; exact absurd rfl h
        · next q3 => rw [if_neg q3] at h; exact absurd rfl h
/-- a list's bytes as a text -/
theorem bAt_str (l : List UInt8) (k : Nat) : bAt (strB l) k = (l.getD k 0).toNat := by
  unfold bAt strB
  show (l.toArray[k]!).toNat = _
  simp [List.getD]
  rfl
theorem size_str (l : List UInt8) : (strB l).size = l.length := rfl
theorem u8n (z : Int) (h0 : 0 ≤ z) (h1 : z < 256) : ((z.toNat.toUInt8).toNat : Int) = z := by
  have : z.toNat.toUInt8.toNat = z.toNat % 256 := rfl
  rw [this]; omega
/-- a written rune is decoded as itself, whatever stands behind it -/
theorem dec_enc (c : Nat) (t : List UInt8) (h : c < 55296 ∨ (57344 ≤ c ∧ c ≤ 1114111)) : Utf8.decode (strB (Lib.encodeRune (c : Int) ++ t)) 0 = (c, (Lib.encodeRune (c : Int)).length) := by
  rw [decode_F]
  have hb : ∀ k, bAt (strB (Lib.encodeRune (c : Int) ++ t)) (0 + k) = ((Lib.encodeRune (c : Int) ++ t).getD k 0).toNat := fun k => by rw [Nat.zero_add]; exact bAt_str _ k
  have hc : ∀ k, contD (strB (Lib.encodeRune (c : Int) ++ t)) 0 k = (decide (k < (Lib.encodeRune (c : Int)).length + t.length) && (((Lib.encodeRune (c : Int) ++ t).getD k 0).toNat / 64 == 2)) := fun k => by
    unfold contD
    rw [hb k, size_str, Nat.zero_add, List.length_append]
  have hb' : (fun k => bAt (strB (Lib.encodeRune (c : Int) ++ t)) (0 + k)) = fun k => ((Lib.encodeRune (c : Int) ++ t).getD k 0).toNat := funext hb
  have hc' : contD (strB (Lib.encodeRune (c : Int) ++ t)) 0 = fun k => (decide (k < (Lib.encodeRune (c : Int)).length + t.length) && (((Lib.encodeRune (c : Int) ++ t).getD k 0).toNat / 64 == 2)) := funext hc
  rw [hb', hc']
  unfold Lib.encodeRune
  rcases (by omega : c < 128 ∨ (128 ≤ c ∧ c < 2048) ∨ (2048 ≤ c ∧ c < 65536) ∨ 65536 ≤ c) with g | ⟨g1, g2⟩ | ⟨g1, g2⟩ | g
  · rw [Lib.encodeRuneZ_one (by omega) (by omega)]
    have e0 := u8n (c : Int) (by omega) (by omega)
    unfold decF
    simp only [List.map_cons, List.map_nil, List.cons_append, List.nil_append, List.getD_cons_zero, List.length_cons, List.length_nil]
    rw [if_pos (by omega)]
    exact Prod.ext (by simp only; omega) rfl
  · rw [Lib.encodeRuneZ_two (by omega) (by omega)]
    have e0 := u8n (192 + (c : Int) / 64) (by omega) (by omega)
    have e1 := u8n (128 + (c : Int) % 64) (by omega) (by omega)
    unfold decF
    simp only [List.map_cons, List.map_nil, List.cons_append, List.nil_append, List.getD_cons_zero, List.getD_cons_succ, List.length_cons, List.length_nil]
    generalize (192 + (c : Int) / 64).toNat.toUInt8.toNat = x0 at *
    generalize (128 + (c : Int) % 64).toNat.toUInt8.toNat = x1 at *
    rw [if_neg (by omega), if_pos (by simp only [Bool.and_eq_true, beq_iff_eq, decide_eq_true_eq]; omega), if_pos (by omega)]
    exact Prod.ext (by simp only; omega) rfl
  · rw [Lib.encodeRuneZ_three (by omega)]
    have e0 := u8n (224 + (c : Int) / 4096) (by omega) (by omega)
    have e1 := u8n (128 + (c : Int) / 64 % 64) (by omega) (by omega)
    have e2 := u8n (128 + (c : Int) % 64) (by omega) (by omega)
    unfold decF
    simp only [List.map_cons, List.map_nil, List.cons_append, List.nil_append, List.getD_cons_zero, List.getD_cons_succ, List.length_cons, List.length_nil]
    generalize (224 + (c : Int) / 4096).toNat.toUInt8.toNat = x0 at *
    generalize (128 + (c : Int) / 64 % 64).toNat.toUInt8.toNat = x1 at *
    generalize (128 + (c : Int) % 64).toNat.toUInt8.toNat = x2 at *
    rw [if_neg (by omega), if_neg (by simp only [Bool.and_eq_true, beq_iff_eq, decide_eq_true_eq]; omega), if_pos (by simp only [Bool.and_eq_true, beq_iff_eq, decide_eq_true_eq]; omega), if_pos (by simp only [Bool.and_eq_true, decide_eq_true_eq, valid_iff]; omega)]
    exact Prod.ext (by simp only; omega) rfl
  · rw [Lib.encodeRuneZ_four (by omega) (by omega)]
    have e0 := u8n (240 + (c : Int) / 262144) (by omega) (by omega)
    have e1 := u8n (128 + (c : Int) / 4096 % 64) (by omega) (by omega)
    have e2 := u8n (128 + (c : Int) / 64 % 64) (by omega) (by omega)
    have e3 := u8n (128 + (c : Int) % 64) (by omega) (by omega)
    unfold decF
    simp only [List.map_cons, List.map_nil, List.cons_append, List.nil_append, List.getD_cons_zero, List.getD_cons_succ, List.length_cons, List.length_nil]
    generalize (240 + (c : Int) / 262144).toNat.toUInt8.toNat = x0 at *
    generalize (128 + (c : Int) / 4096 % 64).toNat.toUInt8.toNat = x1 at *
    generalize (128 + (c : Int) / 64 % 64).toNat.toUInt8.toNat = x2 at *
    generalize (128 + (c : Int) % 64).toNat.toUInt8.toNat = x3 at *
    rw [if_neg (by omega), if_neg (by simp only [Bool.and_eq_true, beq_iff_eq, decide_eq_true_eq]; omega), if_neg (by simp only [Bool.and_eq_true, beq_iff_eq, decide_eq_true_eq]; omega), if_pos (by simp only [Bool.and_eq_true, beq_iff_eq, decide_eq_true_eq]; omega), if_pos (by simp only [Bool.and_eq_true, decide_eq_true_eq, valid_iff]; omega)]
    exact Prod.ext (by simp only; omega) rfl

theorem smallN_nat (c : Nat) : ∃ d : Nat, smallN (c : Int) = (d : Int) := ⟨(smallN c).toNat, by
  unfold smallN
  split
  · omega
  · split <;> omega⟩
theorem smallN_kind (c : Nat) : ((c : Int) < 128 → smallN c < 128 ∧ 0 ≤ smallN c) ∧ (128 ≤ (c : Int) → (c : Int) < 2048 → 128 ≤ smallN c ∧ smallN c < 2048) ∧ (2048 ≤ (c : Int) → smallN c = c) := by
  unfold smallN
  refine ⟨fun h => ?_, fun h h2 => ?_, fun h => ?_⟩ <;> split <;> first | omega | (split <;> omega)
theorem smallN_twice (c : Int) : smallN (smallN c) = smallN c := by
  by_cases h : (65 ≤ c ∧ c ≤ 90) ∨ (192 ≤ c ∧ c ≤ 222 ∧ c ≠ 215) ∨ (913 ≤ c ∧ c ≤ 937 ∧ c ≠ 930) ∨ (1040 ≤ c ∧ c ≤ 1071)
  · have e : smallN c = c + 32 := if_pos h
    rw [e]
    unfold smallN
    rw [if_neg (by omega), if_neg (by omega)]
  · by_cases h2 : 1024 ≤ c ∧ c ≤ 1039
    · have e : smallN c = c + 80 := by unfold smallN; rw [if_neg h, if_pos h2]
      rw [e]
      unfold smallN
      rw [if_neg (by omega), if_neg (by omega)]
    · have e : smallN c = c := by unfold smallN; rw [if_neg h, if_neg h2]
      rw [e, e]
theorem enc_len (c : Nat) : (Lib.encodeRune (c : Int)).length = if c < 128 then 1 else if c < 2048 then 2 else if c < 55296 ∨ (57344 ≤ c ∧ c < 65536) then 3 else if 65536 ≤ c ∧ c ≤ 1114111 then 4 else 3 := by
  unfold Lib.encodeRune Lib.encodeRuneZ
  rw [List.length_map]
  split
  · rw [if_pos (by omega)]; rfl
  · split
    · rw [if_neg (by omega), if_pos (by omega)]; rfl
    · split
      · rw [if_neg (by omega), if_neg (by omega), if_pos (by omega)]; rfl
      · split
        · rw [if_neg (by omega), if_neg (by omega), if_neg (by omega), if_pos (by omega)]; rfl
        · rw [if_neg (by omega), if_neg (by omega), if_neg (by omega), if_neg (by omega)]; rfl
/-- a whole rune's piece is as long as the rune -/
theorem piece_good (s : ByteArray) (p : Nat) (hb : brokenB s p = false) : ∃ d : Nat, smallN ((Utf8.decode s p).1 : Int) = d ∧ pieceL s p = Lib.encodeRune (d : Int) ∧ (Lib.encodeRune (d : Int)).length = (Utf8.decode s p).2 ∧ (d < 55296 ∨ (57344 ≤ d ∧ d ≤ 1114111)) ∧ (d, (Utf8.decode s p).2) ≠ (65533, 1) := by
  have hne : Utf8.decode s p ≠ (65533, 1) := by simpa [brokenB] using hb
  obtain ⟨d, hd⟩ := smallN_nat (Utf8.decode s p).1
  have hk := smallN_kind (Utf8.decode s p).1
  rw [hd] at hk
  have hp : pieceL s p = Lib.encodeRune (d : Int) := by unfold pieceL; rw [if_neg (by rw [hb]; simp), hd]
  refine ⟨d, hd, hp, ?_, ?_, ?_⟩
  · rw [enc_len]
    rcases decode_range hne with ⟨h1, h2⟩ | ⟨h1, h2, h3⟩ | ⟨h1, h2, h3, h4⟩ | ⟨h1, h2, h3⟩
    · rw [h1, if_pos (by omega)]
    · rw [h1, if_neg (by omega), if_pos (by omega)]
    · rw [h1, if_neg (by omega), if_neg (by omega), if_pos (by omega)]
    · rw [h1, if_neg (by omega), if_neg (by omega), if_neg (by omega), if_pos (by omega)]
  · rcases decode_range hne with ⟨h1, h2⟩ | ⟨h1, h2, h3⟩ | ⟨h1, h2, h3, h4⟩ | ⟨h1, h2, h3⟩ <;> omega
  · intro e
    simp only [Prod.mk.injEq] at e
    rcases decode_range hne with ⟨h1, h2⟩ | ⟨h1, h2, h3⟩ | ⟨h1, h2, h3, h4⟩ | ⟨h1, h2, h3⟩ <;> omega
theorem piece_bad (s : ByteArray) (p : Nat) (hb : brokenB s p = true) : pieceL s p = [UInt8.ofNat (bAt s p)] ∧ Utf8.decode s p = (65533, 1) := ⟨by unfold pieceL; rw [if_pos hb], broken_w hb⟩
theorem piece_width (s : ByteArray) (p : Nat) : (pieceL s p).length = (Utf8.decode s p).2 := by
  cases hb : brokenB s p with
  | true => obtain ⟨h1, h2⟩ := piece_bad s p hb; rw [h1, h2]; rfl
  | false => obtain ⟨d, _, h2, h3, _⟩ := piece_good s p hb; rw [h2, h3]
/-- the folded rest, with fuel enough -/
def restL (s : ByteArray) (p : Nat) : List UInt8 := foldFrom s (s.size - p) p
theorem foldFrom_fuel (s : ByteArray) : ∀ (f g p : Nat), s.size ≤ p + f → s.size ≤ p + g → foldFrom s f p = foldFrom s g p
  | 0, g, p, hf, _ => by rw [foldFrom_end s g p (by omega)]; rfl
  | f + 1, 0, p, _, hg => by rw [foldFrom_end s _ p (by omega)]; rfl
  | f + 1, g + 1, p, hf, hg => by
    simp only [foldFrom]
    split
    · next h =>
      have := (decode_fits s p h).1
      rw [foldFrom_fuel s f g _ (by omega) (by omega)]
    · rfl
theorem restL_step (s : ByteArray) (p : Nat) (h : p < s.size) : restL s p = pieceL s p ++ restL s (p + (Utf8.decode s p).2) := by
  obtain ⟨g, e1, e2⟩ := foldFrom_step s (s.size - p) p h (by omega)
  unfold restL
  rw [e1]
  exact congrArg _ (foldFrom_fuel s g _ _ e2 (by omega))
theorem restL_end (s : ByteArray) (p : Nat) (h : ¬ p < s.size) : restL s p = [] := foldFrom_end s _ p h
theorem restL_len (s : ByteArray) : ∀ (n p : Nat), s.size ≤ p + n → p ≤ s.size → (restL s p).length = s.size - p
  | 0, p, h, _ => by rw [restL_end s p (by omega)]; simp; omega
  | n + 1, p, h, hp => by
    by_cases hlt : p < s.size
    · obtain ⟨f1, _, f3, _⟩ := decode_fits s p hlt
      rw [restL_step s p hlt, List.length_append, piece_width, restL_len s n _ (by omega) f3]
      omega
    · rw [restL_end s p hlt]; simp; omega
theorem u8_bAt (s : ByteArray) (p : Nat) : (UInt8.ofNat (bAt s p)).toNat = bAt s p := by
  simp only [UInt8.toNat_ofNat']
  exact Nat.mod_eq_of_lt (bAt_lt s p)
theorem getD_zero_app {l t : List UInt8} (h : 1 ≤ l.length) : (l ++ t).getD 0 0 = l.getD 0 0 := by
  cases l with
  | nil => simp at h
  | cons a r => rfl
theorem enc_head (d : Nat) : ((Lib.encodeRune (d : Int)).getD 0 0).toNat / 64 ≠ 2 := by
  unfold Lib.encodeRune Lib.encodeRuneZ
  split
  · simp only [List.map_cons, List.map_nil, List.getD_cons_zero]
    have := u8n (d : Int) (by omega) (by omega)
    omega
  · split
    · simp only [List.map_cons, List.map_nil, List.getD_cons_zero]
      have := u8n (192 + (d : Int) / 64) (by omega) (by omega)
      omega
    · split
      · simp only [List.map_cons, List.map_nil, List.getD_cons_zero]
        have := u8n (224 + (d : Int) / 4096) (by omega) (by omega)
        omega
      · split
        · simp only [List.map_cons, List.map_nil, List.getD_cons_zero]
          have := u8n (240 + (d : Int) / 262144) (by omega) (by omega)
          omega
        · decide
/-- the rest's first byte is a midst's just where the text's is, and then the same -/
theorem rest_head (s : ByteArray) (p : Nat) (h : p < s.size) : (bAt s p / 64 = 2 → ((restL s p).getD 0 0).toNat = bAt s p ∧ restL s p = UInt8.ofNat (bAt s p) :: restL s (p + 1)) ∧ (bAt s p / 64 ≠ 2 → ((restL s p).getD 0 0).toNat / 64 ≠ 2) := by
  refine ⟨fun hc => ?_, fun hc => ?_⟩
  · have hd := cont_broken hc
    have hb : brokenB s p = true := by unfold brokenB; rw [hd]; rfl
    rw [restL_step s p h, (piece_bad s p hb).1, hd]
    exact ⟨by simp only [List.cons_append, List.getD_cons_zero]; exact u8_bAt s p, rfl⟩
  · rw [restL_step s p h]
    cases hb : brokenB s p with
    | true =>
      rw [(piece_bad s p hb).1]
      simp only [List.cons_append, List.getD_cons_zero]
      rw [u8_bAt]; exact hc
    | false =>
      obtain ⟨d, _, h2, h3, _⟩ := piece_good s p hb
      rw [h2, getD_zero_app (by rw [h3]; exact (decode_fits s p h).1)]
      exact enc_head d
theorem rest_cont (s : ByteArray) (p : Nat) (h : p ≤ s.size) : (decide (0 < (restL s p).length) && (((restL s p).getD 0 0).toNat / 64 == 2)) = (decide (p < s.size) && (bAt s p / 64 == 2)) := by
  rw [restL_len s (s.size - p) p (by omega) h]
  by_cases hp : p < s.size
  · obtain ⟨h1, h2⟩ := rest_head s p hp
    rw [decide_eq_true (show 0 < s.size - p by omega), decide_eq_true hp]
    by_cases hc : bAt s p / 64 = 2
    · rw [(h1 hc).1]
    · rw [beq_eq_false_iff_ne.2 hc, beq_eq_false_iff_ne.2 (h2 hc)]
  · rw [decide_eq_false (show ¬ 0 < s.size - p by omega), decide_eq_false hp]; rfl
/-- THE LAW: the folded rest begins with the folded rune -/
theorem fold_decode (s : ByteArray) (p : Nat) (h : p < s.size) : Utf8.decode (strB (restL s p)) 0 = if brokenB s p = true then (65533, 1) else ((smallN ((Utf8.decode s p).1 : Int)).toNat, (Utf8.decode s p).2) := by
  cases hb : brokenB s p with
  | false =>
    obtain ⟨d, h1, h2, h3, h4, _⟩ := piece_good s p hb
    rw [if_neg (by simp), restL_step s p h, h2, dec_enc d _ h4, h1, h3]
    rfl
  | true =>
    rw [if_pos rfl]
    obtain ⟨hp1, hd⟩ := piece_bad s p hb
    have hr : restL s p = UInt8.ofNat (bAt s p) :: restL s (p + 1) := by rw [restL_step s p h, hp1, hd]; rfl
    rw [← hd, hr, decode_F, decode_F]
    have hB : ∀ (x : UInt8) (t : List UInt8) (k : Nat), bAt (strB (x :: t)) (0 + (k + 1)) = (t.getD k 0).toNat := fun x t k => by rw [Nat.zero_add, bAt_str]; rfl
    have hC : ∀ (x : UInt8) (t : List UInt8) (k : Nat), contD (strB (x :: t)) 0 (k + 1) = (decide (k < t.length) && ((t.getD k 0).toNat / 64 == 2)) := fun x t k => by
      unfold contD
      rw [hB, size_str, List.length_cons]
      congr 1
      exact decide_eq_decide.2 (by omega)
    have cc : ∀ k, contD s p k = (decide (p + k < s.size) && (bAt s (p + k) / 64 == 2)) := fun k => rfl
    refine decF_congr2 ?_ ?_ (fun c1 => ?_) (fun c1 c2 => ?_) (fun c1 c2 c3 => ?_)
    · rw [Nat.zero_add, bAt_str, List.getD_cons_zero, u8_bAt]; rfl
    · rw [hC, cc, rest_cont s (p + 1) (by omega)]
    · obtain ⟨a1, a2⟩ := contD_lt c1
      obtain ⟨b1, b2⟩ := (rest_head s (p + 1) a1).1 a2
      refine ⟨by rw [hB]; exact b1, ?_⟩
      rw [hC, b2, cc]
      have := rest_cont s (p + 2) (by omega)
      simp only [List.length_cons, List.getD_cons_succ]
      rw [← this]
      congr 1
      exact decide_eq_decide.2 (by rw [show p + 1 + 1 = p + 2 from rfl]; omega)
    · obtain ⟨a1, a2⟩ := contD_lt c1
      obtain ⟨a3, a4⟩ := contD_lt c2
      obtain ⟨b1, b2⟩ := (rest_head s (p + 1) a1).1 a2
      obtain ⟨b3, b4⟩ := (rest_head s (p + 2) a3).1 a4
      refine ⟨by rw [hB, b2]; exact b3, ?_⟩
      rw [hC, b2, cc, show p + 1 + 1 = p + 2 from rfl, b4]
      have := rest_cont s (p + 3) (by omega)
      simp only [List.length_cons, List.getD_cons_succ]
      rw [← this]
      congr 1
      exact decide_eq_decide.2 (by rw [show p + 2 + 1 = p + 3 from rfl]; omega)
    · obtain ⟨a1, a2⟩ := contD_lt c1
      obtain ⟨a3, a4⟩ := contD_lt c2
      obtain ⟨a5, a6⟩ := contD_lt c3
      obtain ⟨b1, b2⟩ := (rest_head s (p + 1) a1).1 a2
      obtain ⟨b3, b4⟩ := (rest_head s (p + 2) a3).1 a4
      obtain ⟨b5, _⟩ := (rest_head s (p + 3) a5).1 a6
      rw [hB, b2, show p + 1 + 1 = p + 2 from rfl, b4]
      exact b5
end Go.Proofs.YtaoejgnfoecpfaaDoor
namespace Go.Proofs.YtaoejgnfoecpfaaDoor
set_option linter.unusedVariables false
set_option linter.unusedSimpArgs false
set_option linter.unusedSectionVars false
open Go.RowKit

/-- a place at which a rune begins, or the end -/
inductive Bnd (s : ByteArray) : Nat → Prop
  | zero : Bnd s 0
  | step {p : Nat} : Bnd s p → p < s.size → Bnd s (p + (Utf8.decode s p).2)
theorem Bnd.le {s : ByteArray} {p : Nat} (h : Bnd s p) : p ≤ s.size := by
  induction h with
  | zero => exact Nat.zero_le _
  | step _ hp _ => exact (decode_fits s _ hp).2.2.1
theorem foldR_list (s : ByteArray) : (foldR s).data.toList = restL s 0 := by unfold foldR restL; simp
theorem foldR_size (s : ByteArray) : (foldR s).size = s.size := by
  have := restL_len s s.size 0 (by omega) (Nat.zero_le _)
  rw [← foldR_list] at this
  simpa using this
theorem fold_drop {s : ByteArray} {p : Nat} (h : Bnd s p) : (foldR s).data.toList.drop p = restL s p := by
  induction h with
  | zero => rw [List.drop_zero, foldR_list]
  | step h hp ih =>
    rw [← List.drop_drop, ih, restL_step s _ hp, ← piece_width, List.drop_left]
theorem fold_ext {s : ByteArray} {p : Nat} (h : Bnd s p) : (foldR s).extract p (foldR s).size = strB (restL s p) := by
  apply ByteArray.ext
  apply Array.toList_inj.1
  rw [Lib.extract_to_end, fold_drop h]
  simp [strB]
theorem fold_at {s : ByteArray} {p : Nat} (h : Bnd s p) (hp : p < s.size) : Utf8.decode (foldR s) p = if brokenB s p = true then (65533, 1) else ((smallN ((Utf8.decode s p).1 : Int)).toNat, (Utf8.decode s p).2) := by
  rw [← decode_ext (foldR s) p (by rw [foldR_size]; exact hp), fold_ext h]
  exact fold_decode s p hp
theorem fold_width {s : ByteArray} {p : Nat} (h : Bnd s p) (hp : p < s.size) : (Utf8.decode (foldR s) p).2 = (Utf8.decode s p).2 := by
  rw [fold_at h hp]
  cases hb : brokenB s p with
  | true => rw [if_pos rfl, (piece_bad s p hb).2]
  | false => rw [if_neg (by simp)]
theorem fold_broken {s : ByteArray} {p : Nat} (h : Bnd s p) (hp : p < s.size) : brokenB (foldR s) p = brokenB s p := by
  unfold brokenB
  rw [fold_at h hp]
  cases hb : brokenB s p with
  | true => rw [if_pos rfl, (piece_bad s p hb).2]
  | false =>
    rw [if_neg (by simp)]
    obtain ⟨d, h1, _, _, _, h5⟩ := piece_good s p hb
    have hne : Utf8.decode s p ≠ (65533, 1) := by simpa [brokenB] using hb
    rw [h1, Int.toNat_natCast, decide_eq_false hne, decide_eq_false h5]
theorem fold_byte {s : ByteArray} {p : Nat} (h : Bnd s p) (hp : p < s.size) (hb : brokenB s p = true) : bAt (foldR s) p = bAt s p := by
  obtain ⟨h1, h2⟩ := piece_bad s p hb
  have e := fold_drop h
  rw [restL_step s p hp, h1] at e
  have hz : p < (foldR s).size := by rw [foldR_size]; exact hp
  have e2 : (foldR s).data.toList.drop p = (foldR s)[p] :: (foldR s).data.toList.drop (p + 1) := List.drop_eq_getElem_cons (by simpa using hz)
  rw [e2] at e
  simp only [List.cons_append, List.cons.injEq] at e
  rw [← bAt_get _ _ hz, e.1, u8_bAt]
theorem fold_piece {s : ByteArray} {p : Nat} (h : Bnd s p) (hp : p < s.size) : pieceL (foldR s) p = pieceL s p := by
  cases hb : brokenB s p with
  | true =>
    rw [(piece_bad s p hb).1]
    unfold pieceL
    rw [if_pos (by rw [fold_broken h hp, hb]), fold_byte h hp hb]
  | false =>
    obtain ⟨d, h1, h2, _⟩ := piece_good s p hb
    rw [h2]
    unfold pieceL
    rw [if_neg (by rw [fold_broken h hp, hb]; simp), fold_at h hp, if_neg (by rw [hb]; simp), h1]
    have := smallN_twice ((Utf8.decode s p).1 : Int)
    rw [h1] at this
    simp only [Int.toNat_natCast]
    rw [this]
theorem fold_from {s : ByteArray} : ∀ (f p : Nat), Bnd s p → foldFrom (foldR s) f p = foldFrom s f p
  | 0, _, _ => rfl
  | f + 1, p, h => by
    simp only [foldFrom]
    rw [foldR_size]
    split
    · next hp => rw [fold_piece h hp, fold_width h hp, fold_from f _ (h.step hp)]
    · rfl
theorem fold_twice (s : ByteArray) : foldR (foldR s) = foldR s := by
  have := fold_from (foldR s).size 0 (Bnd.zero (s := s))
  rw [foldR_size] at this
  apply ByteArray.ext
  apply Array.toList_inj.1
  show (foldFrom (foldR s) (foldR s).size 0).toArray.toList = (foldFrom s s.size 0).toArray.toList
  rw [foldR_size, this]
/-- a whole rune is read alike wherever its bytes stand -/
theorem decF_whole {b b' : Nat → Nat} {c c' : Nat → Bool} (h : decF b c ≠ (65533, 1)) (hk : ∀ k, k < (decF b c).2 → b' k = b k ∧ (0 < k → c k = true → c' k = true)) : decF b' c' = decF b c := by
  by_cases q0 : b 0 < 128
  · have e : decF b c = (b 0, 1) := by unfold decF; rw [if_pos q0]
    rw [e] at hk ⊢
    have h0 := (hk 0 (by simp)).1
    unfold decF
    rw [h0, if_pos q0]
  · by_cases q1 : (b 0 / 32 == 6 && c 1) = true
    · have e : decF b c = (if 128 ≤ (b 0 % 32) * 64 + b 1 % 64 then ((b 0 % 32) * 64 + b 1 % 64, 2) else (65533, 1)) := by unfold decF; rw [if_neg q0, if_pos q1]
      by_cases r : 128 ≤ (b 0 % 32) * 64 + b 1 % 64
      · rw [if_pos r] at e
        rw [e] at hk ⊢
        have h0 := (hk 0 (by simp)).1
        obtain ⟨h1, g1⟩ := hk 1 (by simp)
        simp only [Bool.and_eq_true] at q1
        have c1 := g1 (by decide) q1.2
        unfold decF
        rw [h0, h1, c1, if_neg q0, if_pos (by rw [q1.1]; rfl), if_pos r]
      · rw [e, if_neg r] at h; exact absurd rfl h
    · by_cases q2 : (b 0 / 16 == 14 && c 1 && c 2) = true
      · have e : decF b c = (if (decide (2048 ≤ (b 0 % 16) * 4096 + (b 1 % 64) * 64 + b 2 % 64) && Utf8.valid ((b 0 % 16) * 4096 + (b 1 % 64) * 64 + b 2 % 64 : Nat)) = true then ((b 0 % 16) * 4096 + (b 1 % 64) * 64 + b 2 % 64, 3) else (65533, 1)) := by unfold decF; rw [if_neg q0, if_neg q1, if_pos q2]
        by_cases r : (decide (2048 ≤ (b 0 % 16) * 4096 + (b 1 % 64) * 64 + b 2 % 64) && Utf8.valid ((b 0 % 16) * 4096 + (b 1 % 64) * 64 + b 2 % 64 : Nat)) = true
        · rw [if_pos r] at e
          rw [e] at hk ⊢
          have h0 := (hk 0 (by simp)).1
          obtain ⟨h1, g1⟩ := hk 1 (by simp)
          obtain ⟨h2, g2⟩ := hk 2 (by simp)
          simp only [Bool.and_eq_true, beq_iff_eq] at q2
          have c1 := g1 (by decide) q2.1.2
          have c2 := g2 (by decide) q2.2
          unfold decF
          rw [h0, h1, h2, c1, c2, if_neg q0, if_neg (by simp only [Bool.and_eq_true, beq_iff_eq]; omega), if_pos (by simp only [Bool.and_eq_true, beq_iff_eq]; exact ⟨⟨q2.1.1, trivial⟩, trivial⟩), if_pos r]
        · rw [e, if_neg r] at h; exact absurd rfl h
      · by_cases q3 : (b 0 / 8 == 30 && c 1 && c 2 && c 3) = true
        · have e : decF b c = (if (decide (65536 ≤ (b 0 % 8) * 262144 + (b 1 % 64) * 4096 + (b 2 % 64) * 64 + b 3 % 64) && Utf8.valid ((b 0 % 8) * 262144 + (b 1 % 64) * 4096 + (b 2 % 64) * 64 + b 3 % 64 : Nat)) = true then ((b 0 % 8) * 262144 + (b 1 % 64) * 4096 + (b 2 % 64) * 64 + b 3 % 64, 4) else (65533, 1)) := by unfold decF; rw [if_neg q0, if_neg q1, if_neg q2, if_pos q3]
          by_cases r : (decide (65536 ≤ (b 0 % 8) * 262144 + (b 1 % 64) * 4096 + (b 2 % 64) * 64 + b 3 % 64) && Utf8.valid ((b 0 % 8) * 262144 + (b 1 % 64) * 4096 + (b 2 % 64) * 64 + b 3 % 64 : Nat)) = true
          · rw [if_pos r] at e
            rw [e] at hk ⊢
            have h0 := (hk 0 (by simp)).1
            obtain ⟨h1, g1⟩ := hk 1 (by simp)
            obtain ⟨h2, g2⟩ := hk 2 (by simp)
            obtain ⟨h3, g3⟩ := hk 3 (by simp)
            simp only [Bool.and_eq_true, beq_iff_eq] at q3
            have c1 := g1 (by decide) q3.1.1.2
            have c2 := g2 (by decide) q3.1.2
            have c3 := g3 (by decide) q3.2
            unfold decF
            rw [h0, h1, h2, h3, c1, c2, c3, if_neg q0, if_neg (by simp only [Bool.and_eq_true, beq_iff_eq]; omega), if_neg (by simp only [Bool.and_eq_true, beq_iff_eq]; omega), if_pos (by simp only [Bool.and_eq_true, beq_iff_eq]; exact ⟨⟨⟨q3.1.1.1, trivial⟩, trivial⟩, trivial⟩), if_pos r]
          · rw [e, if_neg r] at h; exact absurd rfl h
        · exact absurd (by unfold decF; rw [if_neg q0, if_neg q1, if_neg q2, if_neg q3]) h
theorem bAt_cut (s : ByteArray) (q k : Nat) (hq : q ≤ s.size) (h : k < q) : bAt (s.extract 0 q) k = bAt s k := by
  have hz : k < (s.extract 0 q).size := by rw [ByteArray.size_extract]; omega
  rw [← bAt_get _ _ hz, ← bAt_get _ _ (by omega : k < s.size)]
  congr 1
  show (s.extract 0 q).data[k]'_ = s.data[k]'_
  simp [ByteArray.data_extract]
theorem contD_cut {s : ByteArray} {q p k : Nat} (hq : q ≤ s.size) : contD (s.extract 0 q) p k = true ↔ (p + k < q ∧ contD s p k = true) := by
  have hz : (s.extract 0 q).size = q := by rw [ByteArray.size_extract]; omega
  unfold contD
  rw [hz]
  simp only [Bool.and_eq_true, decide_eq_true_eq, beq_iff_eq]
  constructor
  · rintro ⟨h1, h2⟩
    rw [bAt_cut s q _ hq h1] at h2
    exact ⟨h1, by omega, h2⟩
  · rintro ⟨h1, h2, h3⟩
    exact ⟨h1, by rw [bAt_cut s q _ hq h1]; exact h3⟩
theorem decode_cut (s : ByteArray) (p q : Nat) (hq : q ≤ s.size) (hp : p + (Utf8.decode s p).2 ≤ q) (hp1 : p < q) : Utf8.decode (s.extract 0 q) p = Utf8.decode s p := by
  have hz : (s.extract 0 q).size = q := by rw [ByteArray.size_extract]; omega
  by_cases hg : Utf8.decode s p = (65533, 1)
  · by_cases hb : Utf8.decode (s.extract 0 q) p = (65533, 1)
    · rw [hb, hg]
    · have hf := (decode_fits (s.extract 0 q) p (by omega)).2.2.1
      rw [hz] at hf
      rw [decode_F] at hb hf
      rw [decode_F, decode_F]
      refine (decF_whole hb fun k hk => ⟨(bAt_cut s q _ hq (by omega)).symm, fun _ hc => ((contD_cut hq).1 hc).2⟩).symm
  · rw [decode_F] at hg hp
    rw [decode_F, decode_F]
    exact decF_whole hg fun k hk => ⟨bAt_cut s q _ hq (by omega), fun _ hc => (contD_cut hq).2 ⟨by omega, hc⟩⟩
theorem piece_cut (s : ByteArray) (p q : Nat) (hq : q ≤ s.size) (hp : p + (Utf8.decode s p).2 ≤ q) (hp1 : p < q) : pieceL (s.extract 0 q) p = pieceL s p := by
  unfold pieceL brokenB
  rw [decode_cut s p q hq hp hp1, bAt_cut s q p hq hp1]
theorem smallN_name (c : Nat) : (smallN (c : Int) < 32 ↔ c < 32) ∧ (smallN (c : Int) = 47 ↔ c = 47) ∧ (smallN (c : Int) = 127 ↔ c = 127) ∧ (smallN (c : Int) = 46 ↔ c = 46) := by
  unfold smallN
  split
  · omega
  · split <;> omega
theorem fold_bad {s : ByteArray} {p : Nat} (h : Bnd s p) (hp : p < s.size) : badN (foldR s) p = badN s p := by
  unfold badN
  rw [fold_broken h hp, fold_at h hp]
  cases hb : brokenB s p with
  | true => simp
  | false =>
    obtain ⟨d, h1, _⟩ := piece_good s p hb
    obtain ⟨k1, k2, k3, _⟩ := smallN_name (Utf8.decode s p).1
    rw [if_neg (by simp), h1]
    rw [h1] at k1 k2 k3
    simp only [Int.toNat_natCast]
    rw [decide_eq_decide.2 (show d < 32 ↔ (Utf8.decode s p).1 < 32 by omega), decide_eq_decide.2 (show d = 47 ↔ (Utf8.decode s p).1 = 47 by omega), decide_eq_decide.2 (show d = 127 ↔ (Utf8.decode s p).1 = 127 by omega)]
theorem name_from {s : ByteArray} : ∀ (f p : Nat), Bnd s p → nameFrom (foldR s) f p = nameFrom s f p
  | 0, _, _ => rfl
  | f + 1, p, h => by
    simp only [nameFrom]
    rw [foldR_size]
    split
    · next hp => rw [fold_bad h hp, fold_width h hp, name_from f _ (h.step hp)]
    · rfl
theorem fold_id {s : ByteArray} (h : ∀ p, p < s.size → bAt s p = 46) (hz : s.size ≤ 2) : foldR s = s := by
  have hs : s = ⟨#[]⟩ ∨ s = ⟨#[46]⟩ ∨ s = ⟨#[46, 46]⟩ := by
    have hb : ∀ p (hp : p < s.size), s[p] = 46 := fun p hp => by
      apply UInt8.toNat_inj.1
      rw [bAt_get s p hp, h p hp]; rfl
    rcases (by omega : s.size = 0 ∨ s.size = 1 ∨ s.size = 2) with e | e | e
    · exact .inl (size0 e)
    · refine .inr (.inl ?_)
      apply ByteArray.ext
      apply Array.ext
      · exact e
      · intro i h1 h2
        have := hb i h1
        simp at h2
        subst h2
        exact this
    · refine .inr (.inr ?_)
      apply ByteArray.ext
      apply Array.ext
      · exact e
      · intro i h1 h2
        have := hb i h1
        simp at h2
        rcases (by omega : i = 0 ∨ i = 1) with rfl | rfl <;> exact this
  rcases hs with rfl | rfl | rfl <;> decide +kernel
/-- a folded byte that is a point was one -/
theorem fold_dots {s t : ByteArray} (h : foldR s = t) (ht : t = ⟨#[46]⟩ ∨ t = ⟨#[46, 46]⟩) : s = t := by
  have hsz : s.size = t.size := by rw [← h, foldR_size]
  have hz : t.size ≤ 2 := by rcases ht with rfl | rfl <;> decide
  have ht46 : ∀ p, p < t.size → bAt t p = 46 := fun p hp => by
    rcases ht with rfl | rfl
    · have : p = 0 := by simp only [show (ByteArray.size ⟨#[46]⟩) = 1 from rfl] at hp; omega
      subst this; rfl
    · simp only [show (ByteArray.size ⟨#[46, 46]⟩) = 2 from rfl] at hp
      rcases (by omega : p = 0 ∨ p = 1) with rfl | rfl <;> rfl
  -- at each rune's place the text has a point too
  have key : ∀ p, Bnd s p → p < s.size → bAt s p = 46 ∧ (Utf8.decode s p).2 = 1 := fun p hB hp => by
    have hp2 : p < t.size := by omega
    have hat := fold_at hB hp
    rw [h] at hat
    have hd : Utf8.decode t p = (46, 1) := by
      have hlt : bAt t p < 128 := by rw [ht46 p hp2]; decide
      rw [decode_F]
      unfold decF
      simp only [Nat.add_zero]
      rw [if_pos hlt, ht46 p hp2]
    rw [hd] at hat
    cases hb : brokenB s p with
    | true => rw [if_pos hb] at hat; simp at hat
    | false =>
      rw [if_neg (by rw [hb]; simp)] at hat
      simp only [Prod.mk.injEq] at hat
      obtain ⟨d, h1, _⟩ := piece_good s p hb
      obtain ⟨_, _, _, k4⟩ := smallN_name (Utf8.decode s p).1
      rw [h1] at k4 hat
      simp only [Int.toNat_natCast] at hat
      have hc := k4.1 (by omega)
      refine ⟨?_, hat.2.symm⟩
      have hne : Utf8.decode s p ≠ (65533, 1) := by simpa [brokenB] using hb
      have henc := enc_dec s p hb
      rw [hc, ← hat.2] at henc
      have e : Lib.encodeRune ((46 : Nat) : Int) = [46] := by decide
      rw [e] at henc
      simp only [List.range_one, List.map_cons, List.map_nil, List.cons.injEq, Nat.add_zero] at henc
      have := u8_bAt s p
      rw [← henc.1] at this
      exact this.symm
  have h46 : ∀ p, p < s.size → bAt s p = 46 := fun p hp => by
    rcases (by omega : p = 0 ∨ p = 1) with rfl | rfl
    · exact (key 0 .zero hp).1
    · have h0 := key 0 .zero (by omega)
      have hB := (Bnd.zero (s := s)).step (by omega)
      rw [h0.2] at hB
      exact (key 1 hB hp).1
  rw [← h, fold_id h46 (by omega)]
theorem fold_name (s : ByteArray) : nameOk (foldR s) = nameOk s := by
  have e := name_from s.size 0 (Bnd.zero (s := s))
  have d1 : (foldR s ≠ ⟨#[46]⟩) ↔ s ≠ ⟨#[46]⟩ := by
    refine not_congr ⟨fun h => fold_dots h (.inl rfl), fun h => ?_⟩
    rw [h]; decide +kernel
  have d2 : (foldR s ≠ ⟨#[46, 46]⟩) ↔ s ≠ ⟨#[46, 46]⟩ := by
    refine not_congr ⟨fun h => fold_dots h (.inr rfl), fun h => ?_⟩
    rw [h]; decide +kernel
  unfold nameOk
  rw [foldR_size, e, decide_eq_decide.2 d1, decide_eq_decide.2 d2]
end Go.Proofs.YtaoejgnfoecpfaaDoor
namespace Go.Proofs.YtaoejgnfoecpfaaDoor
set_option linter.unusedVariables false
set_option linter.unusedSimpArgs false
set_option linter.unusedSectionVars false
open Go.RowKit

theorem enc47 {d : Nat} (h : (47 : UInt8) ∈ Lib.encodeRune (d : Int)) : d = 47 := by
  unfold Lib.encodeRune at h
  obtain ⟨x, hx, he⟩ := List.mem_map.1 h
  obtain ⟨h0, h1⟩ := Lib.encodeRuneZ_byte (d : Int) x hx
  have e := congrArg UInt8.toNat he
  have h2 := u8n x h0 h1
  have h3 : (47 : UInt8).toNat = 47 := rfl
  have hx47 : x = 47 := by omega
  subst hx47
  unfold Lib.encodeRuneZ at hx
  split at hx
  · simp at hx; omega
  · split at hx
    · simp at hx; omega
    · split at hx
      · simp at hx; omega
      · split at hx
        · simp at hx; omega
        · simp at hx
theorem enc_47 : Lib.encodeRune 47 = [47] := by decide +kernel
theorem ext_list (s : ByteArray) (p : Nat) : (s.extract p s.size).data.toList = s.data.toList.drop p := Lib.extract_to_end s p
theorem ext_takeB (s : ByteArray) (n : Nat) : (s.extract 0 n).data.toList = s.data.toList.take n := Lib.extract_from_zero s n
theorem strB_list (s : ByteArray) : strB s.data.toList = s := strB_self s
theorem list_strB (l : List UInt8) : (strB l).data.toList = l := by simp [strB]
theorem ext_strB (s : ByteArray) (p : Nat) : s.extract p s.size = strB (s.data.toList.drop p) := by rw [← ext_list, strB_list]
theorem piece_ext (s : ByteArray) (p : Nat) (h : p < s.size) : pieceL (s.extract p s.size) 0 = pieceL s p := by
  unfold pieceL brokenB
  rw [decode_ext s p h, bAt_ext s p 0 h]
  rfl
/-- the folded rest is the rest, folded -/
theorem rest_ext : ∀ (N : Nat) (s : ByteArray) (p : Nat), s.size - p = N → p ≤ s.size → restL s p = restL (s.extract p s.size) 0 := by
  intro N
  induction N using Nat.strongRecOn with
  | _ N ih =>
    intro s p hN hp
    have hz : (s.extract p s.size).size = s.size - p := ext_size s p
    by_cases hlt : p < s.size
    · obtain ⟨f1, _, f3, _⟩ := decode_fits s p hlt
      have hd := decode_ext s p hlt
      rw [restL_step s p hlt, restL_step (s.extract p s.size) 0 (by omega), piece_ext s p hlt, hd, Nat.zero_add]
      rw [ih (s.size - (p + (Utf8.decode s p).2)) (by omega) s _ rfl f3]
      rw [ih ((s.extract p s.size).size - (Utf8.decode s p).2) (by omega) (s.extract p s.size) _ rfl (by omega), ext_ext]
    · rw [restL_end s p hlt, restL_end _ 0 (by omega)]
/-- a text's folded bytes -/
def foldG (s : ByteArray) : List UInt8 := restL s 0
theorem foldG_nil : foldG (strB []) = [] := restL_end _ 0 (by decide)
theorem foldG_step {s : ByteArray} (h : 0 < s.size) : foldG s = pieceL s 0 ++ foldG (strB (s.data.toList.drop (Utf8.decode s 0).2)) := by
  obtain ⟨_, _, f3, _⟩ := decode_fits s 0 h
  unfold foldG
  rw [restL_step s 0 h, rest_ext _ s (0 + (Utf8.decode s 0).2) rfl f3, ext_strB, Nat.zero_add]
theorem foldG_R (s : ByteArray) : strB (foldG s) = foldR s := by
  unfold foldG
  rw [← foldR_list, strB_list]
theorem splitL_app {b : List UInt8} (h : (47 : UInt8) ∉ b) (r : List UInt8) : splitL (b ++ r) = headApp b (splitL r) := by
  induction b with
  | nil =>
    have := splitL_ne r
    cases hq : splitL r with
    | nil => exact absurd hq this
    | cons x y => rw [List.nil_append, hq]; rfl
  | cons c b ih =>
    have h1 : c ≠ 47 := fun e => h (by rw [e]; exact List.mem_cons_self ..)
    have h2 : (47 : UInt8) ∉ b := fun e => h (List.mem_cons_of_mem _ e)
    rw [List.cons_append, splitL_other h1, ih h2, ← headApp_app [c] b (splitL_ne r)]
    rfl
theorem split_head : ∀ (l : List UInt8) (h : List UInt8) (t : List (List UInt8)), splitL l = h :: t → ∃ r, l = h ++ r
  | [], h, t, e => by
    simp only [splitL, List.cons.injEq] at e
    exact ⟨[], by rw [← e.1]; rfl⟩
  | c :: r, h, t, e => by
    by_cases hc : c = 47
    · subst hc
      rw [splitL_slash] at e
      injection e with e1 e2
      exact ⟨47 :: r, by rw [← e1]; rfl⟩
    · rw [splitL_other hc] at e
      have hn := splitL_ne r
      cases hq : splitL r with
      | nil => exact absurd hq hn
      | cons x y =>
        rw [hq] at e
        simp only [headApp, List.cons.injEq] at e
        obtain ⟨r', hr⟩ := split_head r x y hq
        exact ⟨r', by rw [← e.1, hr]; rfl⟩
theorem take_mid {α : Type} (b x r : List α) : (b ++ (x ++ r)).take (b.length + x.length) = b ++ x := by
  rw [← List.append_assoc, ← List.length_append]
  exact List.take_left
/-- the rune at the front: one byte that folds to itself, or none of its bytes and of its piece's is a slash -/
theorem front_cases {s : ByteArray} (h : 0 < s.size) : (∃ c : UInt8, (Utf8.decode s 0).2 = 1 ∧ s.data.toList.take 1 = [c] ∧ pieceL s 0 = [c]) ∨ ((47 : UInt8) ∉ s.data.toList.take (Utf8.decode s 0).2 ∧ (47 : UInt8) ∉ pieceL s 0) := by
  have hg : s.data.toList.take 1 = [UInt8.ofNat (bAt s 0)] := by
    have := take_bytes s 0 1 (by omega)
    have e : (s.extract 0 s.size).extract 0 1 = strB (s.data.toList.take 1) := by
      apply ByteArray.ext
      apply Array.toList_inj.1
      rw [ext_zero, list_strB, ext_takeB]
    rw [e] at this
    have h2 := congrArg (fun x : ByteArray => x.data.toList) this
    simp only [list_strB] at h2
    rw [h2]
    rfl
  cases hb : brokenB s 0 with
  | true =>
    obtain ⟨h1, h2⟩ := piece_bad s 0 hb
    exact .inl ⟨_, by rw [h2], hg, h1⟩
  | false =>
    obtain ⟨d, hd, hp, hl, _, _⟩ := piece_good s 0 hb
    have he := enc_dec s 0 hb
    have hfit := decode_fits s 0 h
    have htk : s.data.toList.take (Utf8.decode s 0).2 = Lib.encodeRune ((Utf8.decode s 0).1 : Int) := by
      have := take_bytes s 0 (Utf8.decode s 0).2 (by omega)
      have e : (s.extract 0 s.size).extract 0 (Utf8.decode s 0).2 = strB (s.data.toList.take (Utf8.decode s 0).2) := by
        apply ByteArray.ext
        apply Array.toList_inj.1
        rw [ext_zero, list_strB, ext_takeB]
      rw [e] at this
      have h2 := congrArg (fun x : ByteArray => x.data.toList) this
      simp only [list_strB] at h2
      rw [h2, he]
    have hn := (smallN_name (Utf8.decode s 0).1).2.1
    by_cases h47 : (Utf8.decode s 0).1 = 47
    · have hd47 : d = 47 := by
        have := hn.2 h47
        omega
      subst hd47
      have hw : (Utf8.decode s 0).2 = 1 := by rw [← hl]; exact congrArg List.length enc_47
      refine .inl ⟨47, hw, ?_, by rw [hp]; exact enc_47⟩
      rw [hw, h47] at htk
      rw [htk]
      exact enc_47
    · refine .inr ⟨fun hm => ?_, fun hm => ?_⟩
      · rw [htk] at hm
        exact h47 (enc47 hm)
      · rw [hp] at hm
        have := enc47 hm
        have h3 := hn.1 (by rw [hd]; omega)
        exact h47 h3
theorem fold_split : ∀ (N : Nat) (s : ByteArray), s.size = N → splitL (foldG s) = (splitL s.data.toList).map fun q => foldG (strB q) := by
  intro N
  induction N using Nat.strongRecOn with
  | _ N ih =>
    intro s hN
    by_cases h : 0 < s.size
    · obtain ⟨f1, f2, f3, _⟩ := decode_fits s 0 h
      have hlen : s.data.toList.length = s.size := by simp
      have hst := foldG_step h
      have hsz : (strB (s.data.toList.drop (Utf8.decode s 0).2)).size = s.size - (Utf8.decode s 0).2 := by rw [size_str, List.length_drop, hlen]
      have hih := ih _ (by omega) (strB (s.data.toList.drop (Utf8.decode s 0).2)) hsz
      rw [list_strB] at hih
      have hcut : s.data.toList = s.data.toList.take (Utf8.decode s 0).2 ++ s.data.toList.drop (Utf8.decode s 0).2 := (List.take_append_drop _ _).symm
      -- none of the bytes at the front is a slash
      have main : (47 : UInt8) ∉ s.data.toList.take (Utf8.decode s 0).2 → (47 : UInt8) ∉ pieceL s 0 → splitL (foldG s) = (splitL s.data.toList).map fun q => foldG (strB q) := by
        intro h1 h2
        have hne := splitL_ne (s.data.toList.drop (Utf8.decode s 0).2)
        rw [hst, splitL_app h2, hih]
        conv => rhs; rw [hcut, splitL_app h1]
        cases hq : splitL (s.data.toList.drop (Utf8.decode s 0).2) with
        | nil => exact absurd hq hne
        | cons x y =>
          obtain ⟨r, hr⟩ := split_head _ _ _ hq
          simp only [headApp, List.map_cons, List.cons.injEq, and_true]
          -- the part that begins at the front
          have hxl : x.length ≤ s.size - (Utf8.decode s 0).2 := by
            have := congrArg List.length hr
            rw [List.length_drop, List.length_append, hlen] at this
            omega
          have hwl : (s.data.toList.take (Utf8.decode s 0).2).length = (Utf8.decode s 0).2 := by rw [List.length_take]; omega
          have hpre : strB (s.data.toList.take (Utf8.decode s 0).2 ++ x) = s.extract 0 ((Utf8.decode s 0).2 + x.length) := by
            apply ByteArray.ext
            apply Array.toList_inj.1
            rw [list_strB]
            rw [ext_takeB]
            have h4 := take_mid (s.data.toList.take (Utf8.decode s 0).2) x r
            rw [hwl, ← hr, ← hcut] at h4
            exact h4.symm
          have hnz : 0 < (strB (s.data.toList.take (Utf8.decode s 0).2 ++ x)).size := by rw [size_str, List.length_append, hwl]; omega
          have hdc : Utf8.decode (strB (s.data.toList.take (Utf8.decode s 0).2 ++ x)) 0 = Utf8.decode s 0 := by rw [hpre]; exact decode_cut s 0 _ (by omega) (by omega) (by omega)
          have hpc : pieceL (strB (s.data.toList.take (Utf8.decode s 0).2 ++ x)) 0 = pieceL s 0 := by rw [hpre]; exact piece_cut s 0 _ (by omega) (by omega) (by omega)
          rw [foldG_step hnz, hpc, hdc, list_strB, List.drop_append, List.drop_of_length_le (by rw [hwl]; omega), hwl, Nat.sub_self]
          rfl
      rcases front_cases h with ⟨c, hw, hb, hp⟩ | ⟨h1, h2⟩
      · by_cases hc : c = 47
        · subst hc
          rw [hw] at hst hih hcut
          rw [hst, hp, List.singleton_append, splitL_slash, hih]
          conv => rhs; rw [hcut, hb, List.singleton_append, splitL_slash]
          rw [List.map_cons, foldG_nil]
        · exact main (by rw [hw, hb]; simpa using fun e => hc e.symm) (by rw [hp]; simpa using fun e => hc e.symm)
      · exact main h1 h2
    · have h0 : s.data.toList = [] := List.eq_nil_of_length_eq_zero (by rw [show s.data.toList.length = s.size by simp]; omega)
      have e : s = strB [] := by rw [← strB_list s, h0]
      rw [h0, e, foldG_nil]
      simp [splitL, foldG_nil]
theorem fold_parts (s : ByteArray) : partsP (foldR s) = (partsP s).map foldR := by
  unfold partsP partsR
  have e : (foldR s).data.toList = foldG s := foldR_list s
  rw [e, fold_split _ s rfl, List.map_map, List.map_map]
  refine List.map_congr_left fun q _ => ?_
  exact foldG_R (strB q)
/-- a folded path is a path -/
theorem fold_path (s : ByteArray) : isPath (foldR s) = isPath s := by
  rw [isPath_parts, isPath_parts, foldR_size, fold_parts, List.length_map, List.all_map]
  congr 1
  exact congrArg (fun f => (partsP s).all f) (funext fun x => fold_name x)
end Go.Proofs.YtaoejgnfoecpfaaDoor
namespace Go.Proofs.YtaoejgnfoecpfaaDoor
set_option linter.unusedVariables false
set_option linter.unusedSimpArgs false
set_option linter.unusedSectionVars false
open Go.RowKit

theorem goN_at : ∀ (r pre : List Nr), goN pre r = 0 → ∀ k (h : k < r.length), stepN (pre ++ r.take k) r[k] = 0
  | [], _, _, k, h => absurd h (Nat.not_lt_zero k)
  | x :: r, pre, hg, k, h => by
    by_cases h0 : stepN pre x = 0
    · rw [goN_step h0] at hg
      match k, h with
      | 0, _ => simpa using h0
      | k + 1, h =>
        have := goN_at r (pre ++ [x]) hg k (by simpa using h)
        simpa [List.append_assoc] using this
    · rw [goN_stop h0] at hg
      exact absurd hg h0
theorem stepN_fit0 {pre : List Nr} {x : Nr} (h : stepN pre x = 0) : fitN x = 0 := by
  apply Decidable.byContradiction
  intro h1
  rw [stepN_fit h1] at h
  exact h1 h
/-- a tree's nodes in order -/
theorem chk_order {l : List Nr} (h : chkN l = 0) : ∀ (k : Nat) (hk : k < l.length) (j : Nat) (hj : j < k), cmpL (partsP (l[j]'(by omega)).at_) (partsP l[k].at_) = -1 := by
  have hg : goN [] l = 0 := by
    unfold chkN at h
    split at h
    · exact absurd h (by decide)
    · exact h
  intro k
  induction k with
  | zero => intro hk j hj; omega
  | succ k ih =>
    intro hk j hj
    have hs := goN_at l [] hg (k + 1) hk
    rw [List.nil_append] at hs
    have hf := stepN_fit0 hs
    have hn := stepN_next (take_last (show k < l.length by omega)) hf
    rw [hs] at hn
    have hlt : cmpL (partsP (l[k]'(by omega)).at_) (partsP l[k + 1].at_) = -1 := by
      apply Decidable.byContradiction
      intro hc
      rw [if_pos hc] at hn
      exact absurd hn (by decide)
    by_cases hjk : j = k
    · subst hjk; exact hlt
    · exact cmpL_trans _ _ _ (ih (by omega) j (by omega)) hlt
theorem chk_there {l : List Nr} (h : chkN l = 0) (k : Nat) (hk : k < l.length) : fitN l[k] = 0 ∧ thereN (l.take k) (parentP l[k].at_) = true := by
  have hg : goN [] l = 0 := by
    unfold chkN at h
    split at h
    · exact absurd h (by decide)
    · exact h
  have hs := goN_at l [] hg k hk
  rw [List.nil_append] at hs
  have hf := stepN_fit0 hs
  refine ⟨hf, ?_⟩
  cases k with
  | zero =>
    have hn := stepN_first hf
    have e : l.take 0 = [] := rfl
    rw [e] at hs ⊢
    rw [hs] at hn
    cases ht : thereN [] (parentP l[0].at_) with
    | true => rfl
    | false => rw [ht, if_pos rfl] at hn; exact absurd hn (by decide)
  | succ k =>
    have hn := stepN_next (take_last (show k < l.length by omega)) hf
    rw [hs] at hn
    split at hn
    · exact absurd hn (by decide)
    · cases ht : thereN (l.take (k + 1)) (parentP l[k + 1].at_) with
      | true => rfl
      | false => rw [ht, if_pos rfl] at hn; exact absurd hn (by decide)
/-- what stands between a folder and what is in it is in it, too -/
theorem chk_between {l : List Nr} (h : chkN l = 0) (i : Nat) (hi : i < l.length) (hp : (parentP l[i].at_).size ≠ 0) :
    ∃ K, ∃ hK : K < i, (l[K]'(by omega)).kind = 1 ∧ (l[K]'(by omega)).at_ = parentP l[i].at_ ∧
      (∀ j (hj : j < i), K < j → (l[j]'(by omega)).at_ ≠ parentP l[i].at_ ∧ (parentP l[i].at_).size < (l[j]'(by omega)).at_.size ∧ (l[j]'(by omega)).at_.extract 0 ((parentP l[i].at_).size + 1) = parentP l[i].at_ ++ ⟨#[47]⟩) := by
  obtain ⟨_, ht⟩ := chk_there h i hi
  unfold thereN at ht
  rw [decide_eq_false hp, Bool.false_or, List.any_eq_true] at ht
  obtain ⟨m, hm, hq⟩ := ht
  simp only [Bool.and_eq_true, decide_eq_true_eq] at hq
  obtain ⟨K, hKl, rfl⟩ := List.getElem_of_mem hm
  have hKi : K < i := by rw [List.length_take] at hKl; omega
  rw [List.getElem_take] at hq
  refine ⟨K, hKi, hq.1, hq.2, fun j hj hKj => ?_⟩
  have h1 := chk_order h j (by omega) K hKj
  have h2 := chk_order h i hi j hj
  rw [hq.2] at h1
  refine ⟨fun e => ?_, ?_⟩
  · rw [e, (cmpL_zero _ _).2 rfl] at h1
    exact absurd h1 (by decide)
  · rcases cmpL_under _ _ h1 with ⟨t, ht, e⟩ | h3
    · exact under_text _ _ ⟨t, ht, e⟩
    · rcases parent_cases l[i].at_ with ⟨h4, _⟩ | h4
      · rw [h4] at hp
        exact absurd rfl hp
      · have h5 := h3 [baseP l[i].at_]
        rw [← h4] at h5
        have h6 := cmpL_turn (partsP l[i].at_) (partsP (l[j]'(by omega)).at_)
        omega
end Go.Proofs.YtaoejgnfoecpfaaDoor
namespace Go.Proofs.YtaoejgnfoecpfaaDoor
set_option linter.unusedVariables false
set_option linter.unusedSimpArgs false
set_option linter.unusedSectionVars false
open Go.RowKit

theorem is_ab : isPath ⟨#[97, 47, 98]⟩ = true := by decide +kernel
set_option maxRecDepth 100000 in
set_option maxHeartbeats 6400000 in
theorem cnodes_all (l : List Nr) (A : Option Addr) (c : Nat) (w : World) (he : Env w) (ha : RecsI w A l) (hl : l.length ≤ 140737488355328) (hb : ∀ x ∈ l, NrB x) :
    Calls Tryd.prog 3 #[.slice A l.length c] w fun e w' => e = .returned (.bool true) ∧ Below w.heap.size w w' := by
  have HE := Lib.hid fun W (hb : Below w.heap.size w W) => he.below hb
  have HA := Lib.hid fun W (h : Below w.heap.size w W) => allIn_any l A c W (ha.below h) hl
  have HBA := Lib.hid (inN_bnd hb)
  have HPA := Lib.hid (inN_pure l)
  have hla := inN_le l
  have hpi := pis_any ⟨#[97, 47, 98]⟩ w he (by decide)
  rw [is_ab] at hpi
  have HKF := Lib.hid fun W => kind_any (folV ⟨#[]⟩ 0 0) ⟨1, ⟨#[]⟩, 0, 0, 0, [], ⟨#[]⟩⟩ W (.inl ⟨rfl, rfl⟩)
  clear he ha hb
  generalize inN l = p at *
  have HNB := Lib.hid (show ∀ x ∈ p, NrB x from fun x hx => (HBA.out x hx).1)
  go_enter Tryd.func3, Tryd.ntmps3
  go_wp2_with fail
  refine hpi.mono ?_
  rintro e w1 ⟨rfl, hb1⟩
  have HB1 := Lib.hid hb1
  clear hb1 hpi
  unfold folV at HKF
  go_wp2_with fail
  refine (HKF.out _).mono ?_
  rintro e w2 ⟨rfl, rfl⟩
  have hk1 : kindR ⟨1, ⟨#[]⟩, 0, 0, 0, [], ⟨#[]⟩⟩ = 1 := by decide
  rw [hk1]
  clear hk1 HKF
  go_wp2_with fail
  refine (HA.out _ HB1.out).mono ?_
  rintro e w3 ⟨X, cx, rfl, hx3, hb3⟩
  have HB3 := Lib.hid (HB1.out.trans (hb3.mono HB1.out.size))
  have HX3 := Lib.hid hx3
  clear hx3 hb3 HB1 HA
  go_wp2_with fail
  refine (nencode_any p X cx w3 (HE.out _ HB3.out) HX3.out HNB.out (by omega)).mono ?_
  rintro e w4 ⟨rfl, hb4⟩
  have HB4 := Lib.hid (HB3.out.trans (hb4.mono HB3.out.size))
  clear hb4 HB3 HX3
  by_cases hz : chkN p = 0
  rotate_left
  · have hse : encS p = noB := if_neg hz
    have hne : (((chkN p : Nat) : Int) != 0) = true := by rw [bne_iff_ne]; omega
    rw [hse]
    unfold noB
    go_wp2
    go_ret
    exact ⟨rfl, HB4.out⟩
  · have hse : encS p = bs (encN p) := if_pos hz
    have hzp := enc_size hz
    have hdc := decN_enc hz HPA.out
    have HZ := Lib.hid hz
    rw [hse, hz]
    generalize bs (encN p) = s at *
    have hd := ndecode_any s w4 (HE.out _ HB4.out) (by omega)
    unfold DecNPost at hd
    rw [hdc] at hd
    clear hse hdc hz
    go_wp2_with fail
    refine hd.mono ?_
    rintro e w5 ⟨D, cd, rfl, hn5, hb5⟩
    have HB5 := Lib.hid (HB4.out.trans (hb5.mono HB4.out.size))
    have HN5 := Lib.hid hn5
    clear hd hb5 hn5 HB4
    go_wp2
    go_loopw [39] (fun iv wr => ∃ i : Nat, iv = .int .i64 (i : Nat) ∧ i ≤ p.length ∧ Hid (Below w5.heap.size w5 wr)) (fun iv _ => p.length - (intOf iv).toNat)
    case atStart => exact ⟨0, rfl, Nat.zero_le _, Lib.hid (Below.refl _ _)⟩
    case round =>
      obtain ⟨i, rfl, hi, HBR⟩ := hrel
      by_cases hil : i < p.length
      · have hii : (i : Int) < (p.length : Int) := by omega
        obtain ⟨g, o, e1, hg, hcc⟩ := HN5.out (by omega)
        subst e1
        obtain ⟨v, hcv, hv⟩ := hcc i p[i] (List.getElem?_eq_getElem hil)
        have hcv2 := (HBR.out.cell (p := ⟨g, o + i, none⟩) hg).trans hcv
        have HBT := Lib.hid (fun h => chk_between HZ.out i hil h)
        obtain ⟨hfx, _⟩ := chk_there HZ.out i hil
        obtain ⟨hkx, hpx, _⟩ := fit_parts hfx
        have hsx := path_size hpx
        have hfp := fold_path p[i].at_
        have hfz := foldR_size p[i].at_
        clear hcv
        generalize p[i] = x at *
        rw [hpx] at hfp
        obtain ⟨t, u, f, rfl, hme, hcf, hpa, z0, z1, z2, hta⟩ := hv.as_ hkx
        have HPP := Lib.hid fun W => pparent_any x.at_ W (by omega)
        have HPA2 := Lib.hid hpa
        have HFO := Lib.hid fun W (h : Env W) => pfold_any x.at_ W h (by omega)
        have HIS := Lib.hid fun W (h : Env W) => pis_any (foldR x.at_) W h (by omega)
        rw [hfp] at HIS
        have hpz : (parentP x.at_).size ≤ 9223372036854775807 := by
          unfold parentP
          rw [ByteArray.size_extract]
          omega
        clear hfx hkx hpx hpa hv hta hfp
        generalize foldR x.at_ = fx at *
        have hle : ((fx.size : Int) ≤ 200) := by omega
        have hzz : ((fx.size : Int) == (x.at_.size : Int)) = true := by rw [hfz]; simp
        generalize x.at_ = xa at *
        go_wp2_with fail
        refine (HPA2.out _).mono ?_
        rintro e w6 ⟨rfl, hb6⟩
        have HB6 := Lib.hid (HBR.out.trans (hb6.mono HBR.out.size))
        clear hb6 HBR
        go_wp2_with fail
        refine (HPP.out _).mono ?_
        rintro e w7 ⟨rfl, rfl⟩
        generalize parentP xa = pp at *
        go_wp2_with fail
        refine (HPA2.out _).mono ?_
        rintro e w8 ⟨rfl, hb8⟩
        have HB8 := Lib.hid (HB6.out.trans (hb8.mono HB6.out.size))
        clear hb8 HB6
        go_wp2_with fail
        refine (HFO.out _ (HE.out _ (HB5.out.trans (HB8.out.mono HB5.out.size)))).mono ?_
        rintro e w9 ⟨rfl, hb9⟩
        have HB9 := Lib.hid (HB8.out.trans (hb9.mono HB8.out.size))
        clear hb9 HB8
        go_wp2_with fail
        refine (HPA2.out _).mono ?_
        rintro e w10 ⟨rfl, hb10⟩
        have HB10 := Lib.hid (HB9.out.trans (hb10.mono HB9.out.size))
        clear hb10 HB9
        go_wp2_with fail
        refine (HFO.out _ (HE.out _ (HB5.out.trans (HB10.out.mono HB5.out.size)))).mono ?_
        rintro e w11 ⟨rfl, hb11⟩
        have HB11 := Lib.hid (HB10.out.trans (hb11.mono HB10.out.size))
        clear hb11 HB10
        go_wp2_with fail
        refine (HIS.out _ (HE.out _ (HB5.out.trans (HB11.out.mono HB5.out.size)))).mono ?_
        rintro e w12 ⟨rfl, hb12⟩
        have HB12 := Lib.hid (HB11.out.trans (hb12.mono HB11.out.size))
        clear hb12 HB11
        have hpe := toList_isEmpty pp
        by_cases hp0 : pp.size = 0
        · rw [decide_eq_true hp0] at hpe
          go_wp2
          go_roundw
          case rel => exact ⟨i + 1, by go_num, by omega, HB12⟩
          case measure => simp [intOf]; omega
        · rw [decide_eq_false hp0] at hpe
          obtain ⟨K, hK, hKk, hKa, hbt⟩ := HBT.out hp0
          have HBE := Lib.hid hbt
          have HKA := Lib.hid hKa
          have HKK := Lib.hid hKk
          clear hbt hKa hKk HBT hp0
          go_wp2
          go_loopw [10] (fun kv wr => ∃ m : Nat, kv = .int .i64 (m : Nat) ∧ K ≤ m ∧ m < i ∧ Hid (Below w5.heap.size w5 wr)) (fun kv _ => (intOf kv).toNat)
          case atStart =>
            obtain ⟨i', rfl⟩ : ∃ i', i = i' + 1 := ⟨i - 1, by omega⟩
            exact ⟨i', by go_num, by omega, by omega, HB12⟩
          case round =>
            clear HB12
            obtain ⟨m, rfl, hKm, hmi, HBM⟩ := hrel
            have hm0 : (0 : Int) ≤ (m : Int) := by omega
            have hml : (m : Int) < (p.length : Int) := by omega
            have hmt : ((m : Int)).toNat = m := by omega
            obtain ⟨g', o', e1, hg', hcc⟩ := HN5.out (by omega)
            injection e1 with e1
            injection e1 with e1 e2
            subst e1 e2
            obtain ⟨v, hcv, hv⟩ := hcc m p[m] (List.getElem?_eq_getElem (by omega))
            have hcv3 := (HBM.out.cell (p := ⟨g, o + m, none⟩) hg).trans hcv
            obtain ⟨hfy, _⟩ := chk_there HZ.out m (by omega)
            obtain ⟨hky, _, _⟩ := fit_parts hfy
            have hkr := (kindR_ok hky).1
            have hys := path_size (fit_parts hfy).2.1
            have hcv0 := hcv
            have HBY := Lib.hid fun (h : K < m) => HBE.out m hmi h
            have HYK := Lib.hid fun (h : m = K) => (show p[m].kind = 1 ∧ p[m].at_ = pp from by subst h; exact ⟨HKK.out, HKA.out⟩)
            clear hcc hcv hfy
            generalize p[m] = y at *
            have HVY := Lib.hid hv
            obtain ⟨t', u', f', rfl, hme', hcf', hpa', _⟩ := hv.as_ hky
            have HPY := Lib.hid hpa'
            clear hv hky hpa'
            generalize hya : y.at_ = ya at *
            by_cases hmK : m = K
            · obtain ⟨hy1, hy2⟩ := HYK.out hmK
              subst hmK
              have hnx : (ya.toList != pp.toList) = false := by rw [txt_neb, decide_eq_true hy2]; rfl
              have hnq : (ya.toList == pp.toList) = true := by rw [txt_eqb, decide_eq_true hy2]
              have hkq : kindR y = 1 := hkr.trans hy1
              have hm1 : ¬ ((m : Int) < 0) := by omega
              have hcvg := fun W (h : Below w5.heap.size w5 W) => (h.cell (p := ⟨g, o + m, none⟩) hg).trans hcv0
              have HCG := Lib.hid hcvg
              clear hy2 hy1 hkr HYK HBY hcvg hcv0 hya
              go_wp2_with fail
              refine (HPY.out _).mono ?_
              rintro e w13 ⟨rfl, hb13⟩
              have HB13 := Lib.hid (HBM.out.trans (hb13.mono HBM.out.size))
              have hcv4 := HCG.out _ HB13.out
              have hkk := kind_any (.iface t' u') y w13 (HVY.out.below HB13.out)
              rw [hkq] at hkk
              clear hb13 hcv3 HBM
              go_wp2_with fail
              refine hkk.mono ?_
              rintro e w14 ⟨rfl, rfl⟩
              go_wp2
              go_roundw
              case rel => exact ⟨i + 1, by go_num, by omega, HB13⟩
              case measure => simp [intOf]; omega
            · obtain ⟨hy1, hy2, hy3⟩ := HBY.out (by omega)
              have hnx : (ya.toList != pp.toList) = true := by rw [txt_neb, decide_eq_false hy1]; rfl
              have hnq : (ya.toList == pp.toList) = false := by rw [txt_eqb, decide_eq_false hy1]
              have hcvg := fun W (h : Below w5.heap.size w5 W) => (h.cell (p := ⟨g, o + m, none⟩) hg).trans hcv0
              have HCG := Lib.hid hcvg
              have hs0 : ¬ ((ya.size : Int) ≤ (pp.size : Int)) := by omega
              have hs1 : (pp.size : Int) + 1 ≤ (ya.size : Int) := by omega
              have hs2 : (0 : Int) ≤ (pp.size : Int) + 1 := by omega
              have hs3 : ((pp.size : Int) + 1).toNat = pp.size + 1 := by omega
              have hsf : ((ya.extract 0 (pp.size + 1)).toList == (pp ++ (⟨#[47]⟩ : ByteArray)).toList) = true := by rw [hy3]; simp
              have hse : ((ya.extract 0 (pp.size + 1)).toList != (pp ++ (⟨#[47]⟩ : ByteArray)).toList) = false := by rw [hy3]; simp
              have hyl : ya.size ≤ 200 := hys
              have HR := fun W => run_string_add_sum (P := Tryd.prog) W pp (⟨#[47]⟩ : ByteArray) (by show pp.size + 1 ≤ _; omega)
              obtain ⟨m', rfl⟩ : ∃ m', m = m' + 1 := ⟨m - 1, by omega⟩
              clear hy1 HYK HBY hcvg hcv0 hkr hy3 hya
              go_wp2_with fail
              refine (HPY.out _).mono ?_
              rintro e w13 ⟨rfl, hb13⟩
              have HB13 := Lib.hid (HBM.out.trans (hb13.mono HBM.out.size))
              have hcv4 := HCG.out _ HB13.out
              clear hb13 hcv3 HBM
              go_wp2_with fail
              refine (HPY.out _).mono ?_
              rintro e w14 ⟨rfl, hb14⟩
              have HB14 := Lib.hid (HB13.out.trans (hb14.mono HB13.out.size))
              clear hb14 hcv4 HB13
              go_wp2
              go_roundw
              case rel => exact ⟨m', by go_num, by omega, by omega, HB14⟩
              case measure => simp [intOf]
      · obtain rfl : i = p.length := by omega
        have hii : ¬ (p.length : Int) < (p.length : Int) := by omega
        have HBW := Lib.hid (HB5.out.trans (HBR.out.mono HB5.out.size))
        go_wp2
        go_ret
        exact ⟨rfl, HBW.out⟩
theorem cnodes_card (l : List Nr) (v : Value) (w : World) (he : Env w) (hp : RecsP w v l) :
    Calls Tryd.prog 3 #[v] w fun e w' => e = .returned (.bool true) ∧ Below w.heap.size w w' := by
  obtain ⟨A, c, rfl, hi, hl, hb⟩ := hp
  exact cnodes_all l A c w he hi hl hb
end Go.Proofs.YtaoejgnfoecpfaaDoor
