/- path.Fold. -/
import Derived.Test.YtbjompcaekbjoaaDoorRh
namespace Go.Proofs.YtbjompcaekbjoaaDoor
open Go.RowKit

/-- what a rune becomes -/
def pieceL (s : ByteArray) (p : Nat) : List UInt8 := if brokenB s p = true then [UInt8.ofNat (bAt s p)] else Lib.encodeRune (smallN (Utf8.decode s p).1)
def foldFrom (s : ByteArray) : Nat → Nat → List UInt8
  | 0, _ => []
  | f + 1, p => if p < s.size then pieceL s p ++ foldFrom s f (p + (Utf8.decode s p).2) else []
def foldR (s : ByteArray) : ByteArray := ⟨(foldFrom s s.size 0).toArray⟩
theorem foldFrom_end (s : ByteArray) (f p : Nat) (h : ¬ p < s.size) : foldFrom s f p = [] := by
  cases f with
  | zero => rfl
  | succ f => simp [foldFrom, h]
theorem foldFrom_step (s : ByteArray) (f p : Nat) (h : p < s.size) (hf : s.size ≤ p + f) : ∃ g, foldFrom s f p = pieceL s p ++ foldFrom s g (p + (Utf8.decode s p).2) ∧ s.size ≤ p + (Utf8.decode s p).2 + g := by
  obtain ⟨g, rfl⟩ : ∃ g, f = g + 1 := ⟨f - 1, by omega⟩
  have := (decode_fits s p h).1
  exact ⟨g, by simp [foldFrom, h], by omega⟩
theorem row_below {B : Nat} {e : TypeId} {k : Nat} {v : Value} {n : Nat} {xs : List Value} {w w' : World} (h : w.ownsRow B e k v n xs) (hb : Below w.heap.size w w') : w'.ownsRow B e k v n xs :=
  h.kept (row := none) ⟨hb.os, hb.tape, hb.output, hb.size, fun j hj _ => hb.block j hj⟩ (by cases hv : v.ownBlock <;> simp)
theorem pieceL_len (s : ByteArray) (p : Nat) : 1 ≤ (pieceL s p).length ∧ (pieceL s p).length ≤ 4 := by
  unfold pieceL
  split
  · simp
  · have := Lib.encodeRuneZ_length (smallN (Utf8.decode s p).1)
    simpa [Lib.encodeRune] using this
theorem infoByte : (Tryd.prog.info? 5).map (fun i => (i.zero, i.size, i.bytes)) = some (some (.int .u8 0), 1, 1) := by kernel_rfl
theorem cells_rune (r : Int) : Lib.runeCells r = bytesV (Lib.encodeRune r) := (Lib.byteCells_encodeRune r).symm

set_option maxRecDepth 100000 in
set_option maxHeartbeats 800000 in
theorem pfold_any (s : ByteArray) (w : World) (he : Env w) (hs : s.size ≤ 1099511627776) :
    Calls Tryd.prog 29 #[.string s] w fun e w' => e = .returned (.string (foldR s)) ∧ Below w.heap.size w w' := by
  have HE := Lib.hid fun W (hb : Below w.heap.size w W) => he.below hb
  clear he
  go_enter Tryd.func29, Tryd.ntmps29
  go_wp2
  go_loopw [3] (fun v wr => ∃ (vv : Value) (p f : Nat) (l : List UInt8), vv = v ∧ wr.heap[w.heap.size]? = some (.stringIter s p) ∧ Below w.heap.size w wr ∧ wr.ownsRow (w.heap.size + 1) 5 1 v l.length (bytesV l) ∧ l ++ foldFrom s f p = foldFrom s s.size 0 ∧ s.size ≤ p + f ∧ l.length ≤ 4 * p ∧ p ≤ s.size) (fun _ wr => s.size - wr.iterPos w.heap.size)
  case atStart => exact ⟨_, 0, s.size, [], rfl, World.iter_heap w s 0, (Below.refl _ w).alloc (Nat.le_refl _) _, ⟨rfl, Or.inl ⟨rfl, rfl⟩⟩, rfl, by omega, by simp, by omega⟩
  case round =>
    obtain ⟨v, p, f, l, rfl, hit, hb, hown, hn, hf, hll, hps⟩ := hrel
    have HPOS := Lib.hid (show wr.iterPos w.heap.size = p by unfold World.iterPos; rw [hit])
    have HIT := Lib.hid hit
    have HN := Lib.hid hn
    clear hn
    by_cases hp : p < s.size
    · have hnx : ∀ ty, (Instr.next (.pointer (some ⟨w.heap.size, 0, none⟩)) true ty).run Tryd.prog wr = _ := fun ty => Lib.run_next_any_at wr w.heap.size s p ty HIT.out hp
      obtain ⟨f1, f2, f3, f4⟩ := decode_fits s p hp
      have HW1 := Lib.hid (Lib.iterAt_heap wr w.heap.size s p (p + (Utf8.decode s p).2) hit)
      have HB1 := Lib.hid (Lib.below_iterAt hb (Nat.le_refl _) s (p + (Utf8.decode s p).2))
      have HOW := Lib.hid (ownsRow_iterAt hown (k := w.heap.size) (by omega) s (p + (Utf8.decode s p).2))
      have HBR := Lib.hid fun W (h : Env W) => broken_any s p W h hs hp
      obtain ⟨g, e2, e3⟩ := foldFrom_step s f p hp hf
      have HG := Lib.hid e2
      have HPL := Lib.hid (pieceL_len s p)
      have HPD := Lib.hid (show pieceL s p = if brokenB s p = true then [UInt8.ofNat (bAt s p)] else Lib.encodeRune (smallN (Utf8.decode s p).1) from rfl)
      have HSB := Lib.hid (bAt_get s p hp)
      have HLT := Lib.hid (bAt_lt s p)
      clear e2 hit hb hown
      generalize (Utf8.decode s p).1 = c at *
      generalize (Utf8.decode s p).2 = n at *
      have HE2 := Lib.hid (HE.out _ HB1.out)
      generalize hW2 : wr.iterAt w.heap.size s (p + n) = W2 at *
      clear hW2
      go_wp2_with fail
      refine (HBR.out _ HE2.out).mono ?_
      rintro e w4 ⟨rfl, hb4⟩
      have hown4 := row_below HOW.out hb4
      have HIT4 := Lib.hid ((hb4.block w.heap.size (Array.getElem?_eq_some_iff.1 HW1.out).1).trans HW1.out)
      have HB4 := Lib.hid (HB1.out.trans (hb4.mono HB1.out.size))
      have hsz : w.heap.size + 1 ≤ w4.heap.size := (Array.getElem?_eq_some_iff.1 HIT4.out).1
      clear hb4 HBR
      cases hbr : brokenB s p with
      | true =>
        have HP := Lib.hid (show pieceL s p = [UInt8.ofNat (bAt s p)] by rw [HPD.out, if_pos hbr])
        clear hbr HPD
        go_wp2_with (at_builtin; refine wpList_app1 rfl _ _ 58 rfl (w.heap.size + 1) 5 Tryd.underlying58 infoByte rfl (by decide) _ _ _ rfl hown4 _ rfl rfl (oneCell_int _ _) ?_ ?_ ?_ ?_; omega; omega; omega; intro g1 cap1 w5 hown' hgr hbw _)
        go_roundw
        case rel =>
          refine ⟨_, p + n, g, l ++ [UInt8.ofNat (bAt s p)], rfl, (hbw.block _ (by omega)).trans HIT4.out, HB4.out.trans (hbw.mono (by omega)), ?_, ?_, e3, by simp; omega, f3⟩
          · rw [bytesV_app]
            have e : bytesV [UInt8.ofNat (bAt s p)] = [Value.int .u8 (s[p].toNat : Int)] := by
              rw [HSB.out]
              simp only [bytesV, List.map_cons, List.map_nil]
              congr 3
              simp only [UInt8.toNat_ofNat']
              exact Nat.mod_eq_of_lt HLT.out
            rw [e]
            simpa using hown'
          · rw [List.append_assoc, ← HP.out, ← HG.out]; exact HN.out
        case measure =>
          have : w5.iterPos w.heap.size = p + n := by unfold World.iterPos; rw [hbw.block _ (by omega), HIT4.out]
          rw [this, HPOS.out]; omega
      | false =>
        have HP := Lib.hid (show pieceL s p = Lib.encodeRune (smallN c) by rw [HPD.out, if_neg (by rw [hbr]; simp)])
        have hr := smallN_range c (by omega) (by omega)
        have hs1 := small_any c w4 (by omega) (by omega)
        have hap := Tryd.utf8_AppendRune_plain (w.heap.size + 1) v l.length (bytesV l) (smallN c) (by omega) (by omega) w4 hown4 (by omega) hsz
        have HS1 := Lib.hid hs1
        have HAP := Lib.hid hap
        have hown5 := Lib.hid hown4
        clear hbr HPD hs1 hap hown4
        generalize smallN c = q at *
        go_wp2_with fail
        refine HS1.out.mono ?_
        rintro e w5 ⟨rfl, rfl⟩
        go_wp2_with fail
        refine HAP.out.mono ?_
        rintro e w5 ⟨v', rfl, hown', ⟨o, hgr⟩⟩
        have hbw : Below (w.heap.size + 1) w4 w5 := ((Below.refl _ w4).alloc hsz o).grown hgr (by simp; omega) (fun k hk => (hown5.out.lt k hk).1)
        have HOWN := Lib.hid hown'
        have HBW := Lib.hid hbw
        clear hown' hgr hbw
        go_wp2
        go_roundw
        case rel =>
          refine ⟨_, p + n, g, l ++ Lib.encodeRune q, rfl, (HBW.out.block _ (by omega)).trans HIT4.out, HB4.out.trans (HBW.out.mono (by omega)), ?_, ?_, e3, ?_, f3⟩
          · have := HOWN.out
            rw [cells_rune] at this
            rw [bytesV_app, List.length_append, ← bytesV_len (Lib.encodeRune q)]
            exact this
          · rw [List.append_assoc, ← HP.out, ← HG.out]; exact HN.out
          · have := HPL.out.2
            rw [HP.out] at this
            rw [List.length_append]; omega
        case measure =>
          have : w5.iterPos w.heap.size = p + n := by unfold World.iterPos; rw [HBW.out.block _ (by omega), HIT4.out]
          rw [this, HPOS.out]; omega
    · have hnx : ∀ ty, (Instr.next (.pointer (some ⟨w.heap.size, 0, none⟩)) true ty).run Tryd.prog wr = _ := fun ty => Lib.run_next_end_at wr w.heap.size s p ty HIT.out hp
      have HF := Lib.hid (foldFrom_end s f p hp)
      have hcv := run_convert_own 58 9 5 Tryd.underlying58 Tryd.underlying5 Tryd.underlying9 hown
      have HB := Lib.hid hb
      clear hb hit hown
      go_wp2
      go_ret
      exact ⟨ret_str (by unfold foldR; rw [← HN.out, HF.out, List.append_nil]), HB.out⟩
end Go.Proofs.YtbjompcaekbjoaaDoor
