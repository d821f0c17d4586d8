/- The document's reading of records. -/
import Derived.Test.YtacifkdheeligaaPd
namespace Go.Proofs.Ytacifkdheeligaa
open Go.RowKit

theorem putL_getL (l : List UInt8) : putL (getL l) l.length = l := by
  induction l with
  | nil => rfl
  | cons c r ih =>
    have hc := c.toNat_lt
    rw [List.length_cons, getL, putL, show (c.toNat + 256 * getL r) / 256 = getL r by omega, ih, show (c.toNat + 256 * getL r) % 256 = c.toNat by omega]
    congr 1
    simp
theorem putL_get (s : ByteArray) (i j : Nat) (h1 : i ≤ j) (h2 : j ≤ s.size) : strL (putL (getL (s.extract i j).data.toList) (j - i)) = s.extract i j := by
  have hl : (s.extract i j).data.toList.length = j - i := by simp; omega
  have := putL_getL (s.extract i j).data.toList
  rw [hl] at this
  rw [this]; rfl
theorem ex_cat (s : ByteArray) (i j k : Nat) (h1 : i ≤ j) (h2 : j ≤ k) (h3 : k ≤ s.size) : s.extract i j ++ s.extract j k = s.extract i k := by
  apply ByteArray.ext
  rw [ByteArray.data_append, ByteArray.data_extract, ByteArray.data_extract, ByteArray.data_extract]
  rw [Array.extract_append_extract, Nat.min_eq_left h1, Nat.max_eq_right h2]
theorem recAt_iff (s : ByteArray) (p n : Nat) (hn : getL (s.extract p (p + 4)).data.toList = n) (h5 : n ≤ 5000) (hs : p + 8 + n ≤ s.size) :
    recAt s p = if s.extract p (p + 8 + n) = frame (s.extract (p + 4) (p + 4 + n)) then some (s.extract (p + 4) (p + 4 + n)) else none := by
  unfold recAt
  rw [if_neg (by omega)]
  simp only [hn]
  rw [if_neg (by omega)]
  have hz : (s.extract (p + 4) (p + 4 + n)).size = n := by rw [ByteArray.size_extract]; omega
  have hp1 := putL_get s p (p + 4) (by omega) (by omega)
  rw [hn, show p + 4 - p = 4 by omega] at hp1
  have hp2 := putL_get s (p + 4 + n) (p + 8 + n) (by omega) (by omega)
  rw [show p + 8 + n - (p + 4 + n) = 4 by omega] at hp2
  have hsp : s.extract p (p + 8 + n) = s.extract p (p + 4) ++ s.extract (p + 4) (p + 4 + n) ++ s.extract (p + 4 + n) (p + 8 + n) := by
    rw [ex_cat _ _ _ _ (by omega) (by omega) (by omega), ex_cat _ _ _ _ (by omega) (by omega) (by omega)]
  by_cases hc : crcL 0 (s.extract (p + 4) (p + 4 + n)).data.toList = getL (s.extract (p + 4 + n) (p + 8 + n)).data.toList
  · rw [if_neg (by simpa using hc), if_pos]
    unfold frame
    rw [hz, hc, hp1, hp2, hsp]
  · rw [if_pos hc, if_neg]
    intro he
    apply hc
    unfold frame at he
    rw [hz, hp1, hsp] at he
    have h9 : s.extract (p + 4 + n) (p + 8 + n) = strL (putL (crcL 0 (s.extract (p + 4) (p + 4 + n)).data.toList) 4) := by
      have h10 := congrArg (fun b : ByteArray => b.data.toList) he
      simp only [ByteArray.data_append, Array.toList_append] at h10
      have h11 := List.append_cancel_left h10
      exact ByteArray.ext (Array.toList_inj.1 h11)
    rw [h9]
    simp only [strL, getL_putL]
    have := crcL_lt 0 (s.extract (p + 4) (p + 4 + n)).data.toList
    omega

set_option maxHeartbeats 1600000 in
set_option maxRecDepth 100000 in
theorem parse2_any (s : ByteArray) (w : World) (hs : s.size ≤ 100000) :
    Calls Try.prog 9 #[.string s] w fun e w' => ∃ v, e = .returned (.tuple #[v, .int .i64 (parse s).2]) ∧ w'.ownsRow w.heap.size 9 1 v (parse s).1.length ((parse s).1.map .string) ∧ Below w.heap.size w w' := by
  go_enter Try.func9, Try.ntmps9
  go_wp2
  go_loopw [4, 5] (fun v i wr => ∃ (k p : Nat) (out : List ByteArray), k ≤ 200 ∧ p ≤ s.size ∧ i = .int .i64 p ∧ out.length = k ∧ parse s = (out ++ (parseFrom s (200 - k) p).1, (parseFrom s (200 - k) p).2) ∧ wr.ownsRow w.heap.size 9 1 v k (out.map .string) ∧ Below w.heap.size w wr ∧ ∃ a c, v = .slice a k c) (fun _ i _ => s.size + 1 - (intOf i).toNat)
  case atStart => exact ⟨0, 0, [], by omega, Nat.zero_le _, rfl, rfl, rfl, World.ownsRow_lit w #[] 0 (Nat.le_refl _) (by decide) rfl, (Below.refl _ _).alloc (Nat.le_refl _) _, _, _, rfl⟩
  case round =>
    obtain ⟨k, p, out, hk, hp, rfl, hlen, hpar, hown, hb, a, c, rfl⟩ := hrel
    have HP := Lib.hid hpar
    have HL := Lib.hid hlen
    clear hpar hlen
    have hfin : ∀ w', Below w.heap.size wr w' → w'.ownsRow w.heap.size 9 1 (.slice a k c) k (out.map .string) → parseFrom s (200 - k) p = ([], p) → ∃ v, Ending.returned (.tuple #[.slice a k c, .int .i64 p]) = .returned (.tuple #[v, .int .i64 (parse s).2]) ∧ w'.ownsRow w.heap.size 9 1 v (parse s).1.length ((parse s).1.map .string) ∧ Below w.heap.size w w' := by
      intro w' hw' ho h0
      refine ⟨.slice a k c, by rw [HP.out, h0], ?_, hb.trans hw'⟩
      rw [HP.out, h0]; simp only [List.append_nil]; rw [HL.out]; exact ho
    have HFin := Lib.hid hfin
    clear hfin
    by_cases h1 : k < 200 ∧ p + 8 ≤ s.size
    · obtain ⟨hk2, hp8⟩ := h1
      have hg := getL_lt4 s p
      have Hg := Lib.hid (fun w => get2_any (s.extract p (p + 4)) w (by simp; omega))
      have hunf : parseFrom s (200 - k) p = match recAt s p with | none => ([], p) | some r => (r :: (parseFrom s (200 - (k + 1)) (p + 8 + r.size)).1, (parseFrom s (200 - (k + 1)) (p + 8 + r.size)).2) := by
        rw [show 200 - k = (200 - (k + 1)) + 1 by omega]; rfl
      have HU := Lib.hid hunf
      have HI := Lib.hid (recAt_iff s p)
      have hrec : recAt s p = (let n := getL (s.extract p (p + 4)).data.toList
          if 5000 < n ∨ s.size < p + 8 + n then none else
          let r := s.extract (p + 4) (p + 4 + n)
          if crcL 0 r.data.toList ≠ getL (s.extract (p + 4 + n) (p + 8 + n)).data.toList then none else some r) := by unfold recAt; rw [if_neg (by omega)]
      generalize getL (s.extract p (p + 4)).data.toList = n at hg Hg hrec HI
      have hrec : 5000 < n ∨ s.size < p + 8 + n → recAt s p = none := by intro h; rw [hrec]; exact if_pos h
      have HR := Lib.hid hrec
      clear hrec hunf
      by_cases h5 : 5000 < n
      · have HZ := Lib.hid (HFin.out wr (Below.refl _ _) hown (by rw [HU.out, HR.out (Or.inl h5)]))
        go_wp2_with (go_at_call 31; refine (Hg.out _).mono ?_; rintro e w2 ⟨rfl, rfl⟩)
        go_ret2
        exact HZ.out
      · by_cases h6 : s.size < p + 8 + n
        · have HZ := Lib.hid (HFin.out wr (Below.refl _ _) hown (by rw [HU.out, HR.out (Or.inr h6)]))
          go_wp2_with (go_at_call 31; refine (Hg.out _).mono ?_; rintro e w2 ⟨rfl, rfl⟩)
          go_ret2
          exact HZ.out
        · have Hc := Lib.hid (fun w => frame2_any (s.extract (p + 4) (p + 4 + n)) w (by simp; omega))
          have HI := Lib.hid (HI.out n rfl (by omega) (by omega))
          generalize hfr : frame (s.extract (p + 4) (p + 4 + n)) = fr at Hc HI
          clear hfr
          go_upto_region 10 with (go_at_call 31; refine (Hg.out _).mono ?_; rintro e w2 ⟨rfl, rfl⟩)
          go_cut [58] (fun s58 wc => s58 = .bool (!((s.extract p (p + 8 + n)).toList == fr.toList)) ∧ Below wr.heap.size wr wc)
          case first =>
            have e1 : IntKind.i64.wrap ((p : Int) + 8) = (p : Int) + 8 := IntWalk.i64_in _ (by omega)
            have e2 : IntKind.i64.wrap ((p : Int) + 8 + n) = (p : Int) + 8 + n := IntWalk.i64_in _ (by omega)
            have e0 : IntKind.i64.wrap (n : Int) = n := IntWalk.i64_in _ (by omega)
            have g0 : 0 ≤ (p : Int) := by omega
            have t0 : (p : Int).toNat = p := by omega
            have t2 : ((p : Int) + 8 + n).toNat = p + 8 + n := by omega
            have g1 : 0 ≤ (p : Int) + 8 + n := by omega
            have g2 : (p : Int) ≤ (p : Int) + 8 + n := by omega
            have g3 : (p : Int) + 8 + n ≤ s.size := by omega
            have g4 : p ≤ p + 8 + n := by omega
            have g5 : p + 8 + n ≤ s.size := by omega
            go_region_with (go_at_call 13; refine (Hc.out _).mono ?_; rintro e w3 ⟨rfl, hb3⟩)
            all_goals (go_wp2_with fail; go_meet; exact ⟨rfl, ⟨hb3.os, hb3.tape, hb3.output, hb3.size, hb3.block⟩⟩)
          case rest =>
            obtain ⟨rfl, hbc⟩ := hcut
            have hownc : wc.ownsRow w.heap.size 9 1 (.slice a k c) k (out.map .string) := ownsRow_keep hown (fun i hi => hbc.block i (ownsRow_lt hown hi).2)
            have hszc := hbc.size
            have hszw := hb.size
            by_cases he : s.extract p (p + 8 + n) = fr
            · have hpar' : parse s = ((out ++ [s.extract (p + 4) (p + 4 + n)]) ++ (parseFrom s (200 - (k + 1)) (p + 8 + n)).1, (parseFrom s (200 - (k + 1)) (p + 8 + n)).2) := by
                rw [HP.out, HU.out, HI.out, if_pos he]
                have hz : (s.extract (p + 4) (p + 4 + n)).size = n := by simp; omega
                dsimp only
                rw [hz, List.append_assoc]; rfl
              have HP2 := Lib.hid hpar'
              have HHl := Lib.hid HL.out
              have HB := Lib.hid (hb.trans (hbc.mono hszw))
              have hno : (!((s.extract p (p + 8 + n)).toList == fr.toList)) = false := by rw [he]; simp
              rw [hno]
              clear hown hpar' hrec
              go_wp2_with (at_builtin; refine wpList_app1 rfl _ _ 23 rfl w.heap.size 9 Try.underlying23 infoStr rfl (by decide) _ _ _ rfl hownc _ rfl rfl (oneCell_string _) ?_ ?_ ?_ ?_; omega; omega; omega; intro g1 cap1 w1 hown1 hgr1 hbw1 _)
              go_roundw
              case rel =>
                refine ⟨k + 1, p + 8 + n, out ++ [s.extract (p + 4) (p + 4 + n)], by omega, by omega, by go_num, by simp [HHl.out], HP2.out, ?_, HB.out.trans hbw1, _, _, rfl⟩
                rw [List.map_append]; exact hown1
              case measure => simp [intOf]; omega
            · have HZ := Lib.hid (HFin.out wc (hbc.mono hszw) hownc (by rw [HU.out, HI.out, if_neg he]))
              have hno : (!((s.extract p (p + 8 + n)).toList == fr.toList)) = true := toList_ne he
              rw [hno]
              clear hrec
              go_wp2
              go_ret2
              exact HZ.out
    · have h0 : parseFrom s (200 - k) p = ([], p) := by
        by_cases hk2 : k < 200
        · rw [show 200 - k = (200 - k - 1) + 1 by omega]
          unfold parseFrom recAt
          rw [if_pos (by omega)]
        · rw [show 200 - k = 0 by omega]; rfl
      have HZ := Lib.hid (HFin.out wr (Below.refl _ _) hown h0)
      clear h0
      by_cases hk2 : k < 200
      · go_wp2
        go_ret2
        exact HZ.out
      · go_wp2
        go_ret2
        exact HZ.out
end Go.Proofs.Ytacifkdheeligaa
