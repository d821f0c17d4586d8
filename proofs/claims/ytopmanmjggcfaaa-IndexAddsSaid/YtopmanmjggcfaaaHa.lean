/- bits.value, bits.Unhex, digest.Is. -/
import Derived.Test.YtopmanmjggcfaaaHp
import Derived.Test.YtopmanmjggcfaaaVa
import Derived.Lib.OthersKept
import Derived.WalkSmall
namespace Go.Proofs.Ytopmanmjggcfaaa
open Go.RowKit

set_option maxRecDepth 100000 in
set_option maxHeartbeats 800000 in
theorem value_any (c : Int) (w : World) : Calls Try.prog 45 #[.int .i32 c] w fun e w' => e = .returned (.int .i64 (hexV c)) ∧ Below w.heap.size w w' := by
  go_enter Try.func45, Try.ntmps45
  go_wp2
  go_loopw [3] (fun _ wr => ∃ p : Nat, p ≤ 16 ∧ wr.heap[w.heap.size]? = some (.stringIter hexText p) ∧ Below w.heap.size w wr ∧ ∀ j, j < p → (digN j : Int) ≠ c) (fun _ wr => 16 - wr.iterPos w.heap.size)
  case atStart => exact ⟨0, by decide, World.iter_heap w _ 0, (Below.refl _ w).alloc (Nat.le_refl _) _, fun j h => absurd h (by omega)⟩
  case round =>
    obtain ⟨p, hp16, hit, hb, hn⟩ := hrel
    have HPOS := Lib.hid (show wr.iterPos w.heap.size = p by unfold World.iterPos; rw [hit])
    have HIT := Lib.hid hit
    have HN := Lib.hid hn
    clear hn
    by_cases hp : p < 16
    · have hd := hexText_decode p hp
      have hnx : ∀ ty, (Instr.next (.pointer (some ⟨w.heap.size, 0, none⟩)) true ty).run Try.prog wr = _ := fun ty => Lib.run_next_any_at wr w.heap.size hexText p ty HIT.out hp
      rw [hd] at hnx
      have HW1 := Lib.hid (Lib.iterAt_heap wr w.heap.size hexText p (p + 1) hit)
      have HB1 := Lib.hid (Lib.below_iterAt hb (Nat.le_refl _) hexText (p + 1))
      have HV := Lib.hid (hexV_dig p hp)
      clear hit hb hd
      generalize hD : digN p = d at *
      have HD := Lib.hid hD
      clear hD
      generalize hW2 : wr.iterAt w.heap.size hexText (p + 1) = W2 at *
      clear hW2
      by_cases hq : (d : Int) = c
      · have HC := Lib.hid hq
        have hq1 : ((d : Int) == c) = true := by simpa using hq
        clear hq
        go_wp2
        go_ret
        exact ⟨ret_int (by rw [← HC.out, HV.out]), HB1.out⟩
      · have HC := Lib.hid hq
        have hq1 : ((d : Int) == c) = false := by simpa using hq
        clear hq
        go_wp2
        go_roundw
        case rel => exact ⟨p + 1, by omega, HW1.out, HB1.out, fun j hj => by
          rcases (by omega : j < p ∨ j = p) with h | rfl
          · exact HN.out j h
          · rw [HD.out]; exact HC.out⟩
        case measure =>
          have : W2.iterPos w.heap.size = p + 1 := by unfold World.iterPos; rw [HW1.out]
          rw [this, HPOS.out]; omega
    · have hnx : ∀ ty, (Instr.next (.pointer (some ⟨w.heap.size, 0, none⟩)) true ty).run Try.prog wr = _ := fun ty => Lib.run_next_end_at wr w.heap.size hexText p ty HIT.out hp
      have HB := Lib.hid hb
      have HF := Lib.hid (hexV_none c fun j hj => HN.out j (by omega))
      clear hb hit
      go_wp2
      go_ret
      exact ⟨ret_int HF.out.symm, HB.out⟩

theorem ownsRow_below {B : Nat} {e : TypeId} {k : Nat} {v : Value} {n : Nat} {xs : List Value} {w w' : World} (h : w.ownsRow B e k v n xs) (hb : Below w.heap.size w w') : w'.ownsRow B e k v n xs :=
  h.kept (row := none) ⟨hb.os, hb.tape, hb.output, hb.size, fun j hj _ => hb.block j hj⟩ (by cases hv : v.ownBlock <;> simp)
def UnhexPost (s : ByteArray) (e : Ending) : Prop := ∃ t, e = .returned (.tuple #[.string t, .bool (allHex s.data.toList && decide (s.size % 2 = 0))])
set_option maxRecDepth 100000 in
set_option maxHeartbeats 1600000 in
theorem unhex_any (s : ByteArray) (w : World) (hs : s.size ≤ 140737488355328) : Calls Try.prog 39 #[.string s] w fun e w' => UnhexPost s e ∧ Below w.heap.size w w' := by
  go_enter Try.func39, Try.ntmps39
  go_wp2
  go_loopw [4, 5] (fun v h wr => ∃ (vv : Value) (p k : Nat) (l : List UInt8), vv = v ∧ p ≤ s.size ∧ wr.heap[w.heap.size]? = some (.stringIter s p) ∧ Below w.heap.size w wr ∧ wr.ownsRow (w.heap.size + 1) 5 1 v l.length (bytesV l) ∧ l.length ≤ p ∧ allHex (s.data.toList.take p) = true ∧ h = .int .i64 (k : Nat) ∧ k ≤ 16 ∧ (k = 16 ↔ p % 2 = 0)) (fun _ _ wr => s.size - wr.iterPos w.heap.size)
  case atStart => exact ⟨_, 0, 16, [], rfl, Nat.zero_le _, World.iter_heap w s 0, (Below.refl _ w).alloc (Nat.le_refl _) _, ⟨rfl, Or.inl ⟨rfl, rfl⟩⟩, by simp, rfl, rfl, by decide, by simp⟩
  case round =>
    obtain ⟨v, p, k, l, rfl, hps, hit, hb, hown, hll, hall, rfl, hk16, hkp⟩ := hrel
    have HPOS := Lib.hid (show wr.iterPos w.heap.size = p by unfold World.iterPos; rw [hit])
    have HIT := Lib.hid hit
    have HALL := Lib.hid hall
    have HKP := Lib.hid hkp
    clear hall hkp
    by_cases hp : p < s.size
    · have hnx : ∀ ty, (Instr.next (.pointer (some ⟨w.heap.size, 0, none⟩)) true ty).run Try.prog wr = _ := fun ty => Lib.run_next_any_at wr w.heap.size s p ty HIT.out hp
      obtain ⟨f1, f2, f3, f4⟩ := decode_fits s p hp
      have HW1 := Lib.hid (Lib.iterAt_heap wr w.heap.size s p (p + (Utf8.decode s p).2) hit)
      have HB1 := Lib.hid (Lib.below_iterAt hb (Nat.le_refl _) s (p + (Utf8.decode s p).2))
      have HOW := Lib.hid (ownsRow_iterAt hown (k := w.heap.size) (by omega) s (p + (Utf8.decode s p).2))
      have HD := Lib.hid (hex_decode s p)
      have HE := Lib.hid (decode_hex s p)
      have HVI := Lib.hid (hexV_is (Utf8.decode s p).1)
      have HVA := Lib.hid fun W => value_any ((Utf8.decode s p).1 : Int) W
      generalize hcn : Utf8.decode s p = cn at *
      obtain ⟨c, n⟩ := cn
      have HCN := Lib.hid hcn
      clear hcn hit hb hown
      simp only at f1 f2 f3 f4 hnx HW1 HB1 HOW HVI HVA HD HE
      generalize hW2 : wr.iterAt w.heap.size s (p + n) = W2 at *
      clear hW2
      cases hx : isHex c with
      | false =>
        have HF := Lib.hid (allHex_false s p hp (by
          cases hy : isHex (bAt s p) with
          | false => rfl
          | true => have := HE.out hy; simp only [Prod.mk.injEq] at this; rw [← this.1, hx] at hy; simp at hy))
        have hv : hexV c = 16 := HVI.out.1.2 hx
        rw [hv] at HVA
        clear hx hv
        go_wp2_with fail
        refine (HVA.out _).mono ?_
        rintro e w4 ⟨rfl, hb4⟩
        have HB4 := Lib.hid hb4
        clear hb4
        go_wp2
        go_ret2
        exact ⟨⟨_, by rw [HF.out]; rfl⟩, HB1.out.trans (HB4.out.mono HB1.out.size)⟩
      | true =>
        obtain ⟨h1, h2⟩ := HD.out hx
        simp only [Prod.mk.injEq] at h1
        obtain ⟨rfl, rfl⟩ := h1
        have HSTEP := Lib.hid (allHex_take s p hp HALL.out h2)
        obtain ⟨g1, g2, g3⟩ := HVI.out
        obtain ⟨u, hu⟩ : ∃ u : Nat, hexV (bAt s p) = u := ⟨(hexV (bAt s p)).toNat, by omega⟩
        have hu16 : u < 16 := by
          rcases (by omega : u < 16 ∨ u = 16) with h | h
          · exact h
          · rw [hu, h] at g1
            have := g1.1 rfl
            rw [hx] at this; simp at this
        rw [hu] at HVA
        have hq1 : ((u : Int) == 16) = false := by simp; omega
        have HW1' := HW1
        clear hx h2 g1 g2 g3 hu
        go_wp2_with fail
        refine (HVA.out _).mono ?_
        rintro e w4 ⟨rfl, hb4⟩
        have hown4 := ownsRow_below HOW.out hb4
        have HIT4 := Lib.hid ((hb4.block w.heap.size (Array.getElem?_eq_some_iff.1 HW1.out).1).trans HW1.out)
        have HB4 := Lib.hid (HB1.out.trans (hb4.mono HB1.out.size))
        have hsz : w.heap.size + 1 ≤ w4.heap.size := (Array.getElem?_eq_some_iff.1 HIT4.out).1
        clear hb4
        by_cases hk : k = 16
        · have HK := Lib.hid hk
          have hq2 : ((k : Int) == 16) = true := by simp; omega
          clear hk
          go_wp2
          go_roundw
          case rel => exact ⟨v, p + 1, u, l, rfl, by omega, HIT4.out, HB4.out, hown4, by omega, HSTEP.out, rfl, by omega, by have := HKP.out; have := HK.out; omega⟩
          case measure =>
            have : w4.iterPos w.heap.size = p + 1 := by unfold World.iterPos; rw [HIT4.out]
            rw [this, HPOS.out]; omega
        · have HK := Lib.hid hk
          have hq2 : ((k : Int) == 16) = false := by simp; omega
          clear hk
          go_wp2_with (at_builtin; refine wpList_app1 rfl _ _ 64 rfl (w.heap.size + 1) 5 Try.underlying64 infoB rfl (by decide) _ _ _ rfl hown4 _ rfl rfl (oneCell_int _ _) ?_ ?_ ?_ ?_; omega; omega; omega; intro g1 cap1 w5 hown' hgr hbw _)
          have hb5 : ∀ z : Int, 0 ≤ z % 256 ∧ z % 256 < 256 := fun z => by omega
          go_roundw
          case rel =>
            refine ⟨_, p + 1, 16, l ++ [UInt8.ofNat (bits BinOp.or IntKind.i64 ((k : Int) * 16) (u : Int) % 256).toNat], rfl, by omega, (hbw.block _ (by omega)).trans HIT4.out, HB4.out.trans (hbw.mono (by omega)), ?_, by simp; omega, HSTEP.out, rfl, by decide, by have := HKP.out; have := HK.out; omega⟩
            rw [bytesV_app]
            have e : bytesV [UInt8.ofNat (bits BinOp.or IntKind.i64 ((k : Int) * 16) (u : Int) % 256).toNat] = [Value.int .u8 (bits BinOp.or IntKind.i64 ((k : Int) * 16) (u : Int) % 256)] := by
              obtain ⟨z1, z2⟩ := hb5 (bits BinOp.or IntKind.i64 ((k : Int) * 16) (u : Int))
              simp only [bytesV, List.map_cons, List.map_nil]
              rw [u8_small (by omega)]
              congr 2
              omega
            rw [e]
            simpa using hown'
          case measure =>
            have : w5.iterPos w.heap.size = p + 1 := by unfold World.iterPos; rw [hbw.block _ (by omega), HIT4.out]
            rw [this, HPOS.out]; omega
    · have hnx : ∀ ty, (Instr.next (.pointer (some ⟨w.heap.size, 0, none⟩)) true ty).run Try.prog wr = _ := fun ty => Lib.run_next_end_at wr w.heap.size s p ty HIT.out hp
      have hpe : p = s.size := by omega
      have HF := Lib.hid (show allHex s.data.toList = true by have := HALL.out; rw [hpe, ba_take_all] at this; exact this)
      have hcv := run_convert_own 64 9 5 Try.underlying64 Try.underlying5 Try.underlying9 hown
      have HB := Lib.hid hb
      by_cases hk : k = 16
      · have HE := Lib.hid (show decide (s.size % 2 = 0) = true from decide_eq_true (by have := HKP.out; omega))
        have hq2 : ((k : Int) != 16) = false := by simp; omega
        clear hb hit hown hk hpe
        go_wp2
        go_ret2
        exact ⟨⟨_, by rw [HF.out, HE.out]; rfl⟩, HB.out⟩
      · have HE := Lib.hid (show decide (s.size % 2 = 0) = false from decide_eq_false (by have := HKP.out; omega))
        have hq2 : ((k : Int) != 16) = true := by simp; omega
        clear hb hit hown hk hpe
        go_wp2
        go_ret2
        exact ⟨⟨_, by rw [HF.out, HE.out]; rfl⟩, HB.out⟩

set_option maxRecDepth 100000 in
set_option maxHeartbeats 400000 in
theorem dis_any (s : ByteArray) (w : World) (hs : s.size ≤ 140737488355328) : Calls Try.prog 31 #[.string s] w fun e w' => e = .returned (.bool (isNameD s)) ∧ Below w.heap.size w w' := by
  have H1 := Lib.hid (unhex_any s w hs)
  have HN := Lib.hid (show isNameD s = (decide (s.size = 64) && allHex s.data.toList) from rfl)
  go_enter Try.func31, Try.ntmps31
  go_wp2_with fail
  refine H1.out.mono ?_
  rintro e w1 ⟨⟨t, rfl⟩, hb⟩
  by_cases h64 : s.size = 64
  · rw [decide_eq_true h64] at HN
    have he : decide (s.size % 2 = 0) = true := decide_eq_true (by omega)
    rw [he]
    have hq : ((s.size : Int) == 64) = true := by simp; omega
    clear h64 he
    generalize allHex s.data.toList = b at *
    cases b
    all_goals
      go_wp2
      go_ret
      exact ⟨ret_bool (by rw [HN.out]; rfl), hb⟩
  · rw [decide_eq_false h64] at HN
    have hq : ((s.size : Int) == 64) = false := by simp; omega
    clear h64
    cases (allHex s.data.toList && decide (s.size % 2 = 0))
    all_goals
      go_wp2
      go_ret
      exact ⟨ret_bool (by rw [HN.out]; rfl), hb⟩
end Go.Proofs.Ytopmanmjggcfaaa
