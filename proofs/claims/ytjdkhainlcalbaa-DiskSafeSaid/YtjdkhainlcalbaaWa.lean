/- The log's frames, and how bytes are read as records. -/
import Derived.Test.YtjdkhainlcalbaaCr
import Derived.Test.YtjdkhainlcalbaaDs
import Derived.Deep.RegionWith
import Derived.Deep.DeepCutAuto
namespace Go.Proofs.Ytjdkhainlcalbaa
open Go.RowKit

set_option maxHeartbeats 400000 in
set_option maxRecDepth 100000 in
theorem crc32_any (s : ByteArray) (w : World) (hs : s.size ≤ 9223372036854775807) :
    Calls Try.prog 80 #[.string s] w fun e w' => e = .returned (.int .u32 (crcL 0 s.data.toList)) ∧ Below w.heap.size w w' := by
  have H := Lib.hid (crc_any 0 s w hs (by decide))
  go_enter Try.func80, Try.ntmps80
  go_wp2_with fail
  refine H.out.mono ?_
  rintro e w1 ⟨rfl, hb1⟩
  go_wp2
  go_ret
  exact ⟨rfl, hb1⟩

def strL (l : List UInt8) : ByteArray := ⟨l.toArray⟩
theorem strL_size (l : List UInt8) : (strL l).size = l.length := by simp [strL, ByteArray.size]
def frame (s : ByteArray) : ByteArray := strL (putL s.size 4) ++ s ++ strL (putL (crcL 0 s.data.toList) 4)
theorem frame_size (s : ByteArray) : (frame s).size = s.size + 8 := by
  simp [frame, ByteArray.size_append, strL_size, putL_len]; omega

set_option maxHeartbeats 400000 in
set_option maxRecDepth 100000 in
theorem frame_any (s : ByteArray) (w : World) (hs : s.size ≤ 1099511627776) :
    Calls Try.prog 48 #[.string s] w fun e w' => e = .returned (.string (frame s)) ∧ Below w.heap.size w w' := by
  have H1 := Lib.hid (put_any s.size 4 w (by omega) (by decide))
  have H2 := Lib.hid (fun w => crc32_any s w (by omega))
  have H3 := Lib.hid (fun w => put_any (crcL 0 s.data.toList) 4 w (Nat.lt_trans (crcL_lt _ _) (by decide)) (by decide))
  go_enter Try.func48, Try.ntmps48
  have z1 := strL_size (putL s.size 4)
  have z3 := strL_size (putL (crcL 0 s.data.toList) 4)
  rw [putL_len] at z1 z3
  have HF : Hid (frame s = strL (putL s.size 4) ++ s ++ strL (putL (crcL 0 s.data.toList) 4)) := rfl
  unfold strL at z1 z3 HF
  generalize (⟨(putL s.size 4).toArray⟩ : ByteArray) = p at H1 z1 HF
  generalize (⟨(putL (crcL 0 s.data.toList) 4).toArray⟩ : ByteArray) = q at H3 z3 HF
  have z1' : p.size ≤ 4 := by omega
  have z3' : q.size ≤ 4 := by omega
  have z4 : (p ++ s).size ≤ s.size + 4 := by rw [ByteArray.size_append]; omega
  clear z1 z3
  have hcl := crcL_lt 0 s.data.toList
  generalize crcL 0 s.data.toList = cc at *
  go_wp2_with fail
  refine H1.out.mono ?_
  rintro e w1 ⟨rfl, hb1⟩
  go_wp2_with fail
  refine (H2.out _).mono ?_
  rintro e w2 ⟨rfl, hb2⟩
  go_wp2_with fail
  refine (H3.out _).mono ?_
  rintro e w3 ⟨rfl, hb3⟩
  go_wp2
  go_ret
  exact ⟨ret_str HF.out.symm, (hb1.trans (hb2.mono hb1.size)).trans (hb3.mono (Nat.le_trans hb1.size hb2.size))⟩

/-- the record at a place; none: there is none -/
def recAt (s : ByteArray) (p : Nat) : Option ByteArray :=
  if s.size < p + 8 then none else
  let n := getL (s.extract p (p + 4)).data.toList
  if 5000 < n ∨ s.size < p + 8 + n then none else
  let r := s.extract (p + 4) (p + 4 + n)
  if crcL 0 r.data.toList ≠ getL (s.extract (p + 4 + n) (p + 8 + n)).data.toList then none else some r
def parseFrom (s : ByteArray) : Nat → Nat → List ByteArray × Nat
  | 0, p => ([], p)
  | f + 1, p => match recAt s p with
    | none => ([], p)
    | some r => (r :: (parseFrom s f (p + 8 + r.size)).1, (parseFrom s f (p + 8 + r.size)).2)
def parse (s : ByteArray) : List ByteArray × Nat := parseFrom s 200 0
theorem getL_lt4 (s : ByteArray) (p : Nat) : getL (s.extract p (p + 4)).data.toList < 4294967296 := by
  refine Nat.lt_of_lt_of_le (getL_lt _) (Nat.le_trans (Nat.pow_le_pow_right (by decide) (show _ ≤ 4 by simp; omega)) (by decide))
theorem infoStr : (Try.prog.info? 9).map (fun i => (i.zero, i.size, i.bytes)) = some (some (.string ⟨#[]⟩), 1, 16) := by kernel_rfl

set_option maxHeartbeats 1600000 in
set_option maxRecDepth 100000 in
theorem parse_any (s : ByteArray) (w : World) (hs : s.size ≤ 1099511627776) :
    Calls Try.prog 50 #[.string s] w fun e w' => ∃ v, e = .returned (.tuple #[v, .int .i64 (parse s).2]) ∧ w'.ownsRow w.heap.size 9 1 v (parse s).1.length ((parse s).1.map .string) ∧ Below w.heap.size w w' := by
  go_enter Try.func50, Try.ntmps50
  go_wp2
  go_loopw [4, 5] (fun v i wr => ∃ (k p : Nat) (out : List ByteArray), k ≤ 200 ∧ p ≤ s.size ∧ i = .int .i64 p ∧ out.length = k ∧ parse s = (out ++ (parseFrom s (200 - k) p).1, (parseFrom s (200 - k) p).2) ∧ wr.ownsRow w.heap.size 9 1 v k (out.map .string) ∧ Below w.heap.size w wr ∧ ∃ a c, v = .slice a k c) (fun _ i _ => s.size + 1 - (intOf i).toNat)
  case atStart => exact ⟨0, 0, [], by omega, Nat.zero_le _, rfl, rfl, rfl, ⟨rfl, Or.inl ⟨rfl, rfl⟩⟩, Below.refl _ _, _, _, rfl⟩
  case round =>
    obtain ⟨k, p, out, hk, hp, rfl, hlen, hpar, hown, hb, a, c, rfl⟩ := hrel
    have HP := Lib.hid hpar
    have HL := Lib.hid hlen
    clear hpar hlen
    have hfin : ∀ w', Below w.heap.size wr w' → w'.ownsRow w.heap.size 9 1 (.slice a k c) k (out.map .string) → parseFrom s (200 - k) p = ([], p) → ∃ v, Ending.returned (.tuple #[.slice a k c, .int .i64 p]) = .returned (.tuple #[v, .int .i64 (parse s).2]) ∧ w'.ownsRow w.heap.size 9 1 v (parse s).1.length ((parse s).1.map .string) ∧ Below w.heap.size w w' := by
      intro w' hw' ho h0
      refine ⟨.slice a k c, by rw [HP.out, h0], ?_, hb.trans hw'⟩
      rw [HP.out, h0]; simp only [List.append_nil]; rw [HL.out]; exact ho
    have HFin := Lib.hid hfin
    clear hfin
    by_cases h1 : k < 200 ∧ p + 8 ≤ s.size
    · obtain ⟨hk2, hp8⟩ := h1
      have hg := getL_lt4 s p
      have Hg := Lib.hid (fun w => get_any (s.extract p (p + 4)) w (by simp; omega))
      have hunf : parseFrom s (200 - k) p = match recAt s p with | none => ([], p) | some r => (r :: (parseFrom s (200 - (k + 1)) (p + 8 + r.size)).1, (parseFrom s (200 - (k + 1)) (p + 8 + r.size)).2) := by
        rw [show 200 - k = (200 - (k + 1)) + 1 by omega]; rfl
      have HU := Lib.hid hunf
      have hrec : recAt s p = (let n := getL (s.extract p (p + 4)).data.toList
          if 5000 < n ∨ s.size < p + 8 + n then none else
          let r := s.extract (p + 4) (p + 4 + n)
          if crcL 0 r.data.toList ≠ getL (s.extract (p + 4 + n) (p + 8 + n)).data.toList then none else some r) := by unfold recAt; rw [if_neg (by omega)]
      generalize getL (s.extract p (p + 4)).data.toList = n at hg Hg hrec
      have hrec : recAt s p = if 5000 < n ∨ s.size < p + 8 + n then none else
          if crcL 0 (s.extract (p + 4) (p + 4 + n)).data.toList ≠ getL (s.extract (p + 4 + n) (p + 8 + n)).data.toList then none else some (s.extract (p + 4) (p + 4 + n)) := hrec
      have HR := Lib.hid hrec
      clear hrec hunf
      by_cases h5 : 5000 < n
      · have HZ := Lib.hid (HFin.out wr (Below.refl _ _) hown (by rw [HU.out, HR.out, if_pos (Or.inl h5)]))
        go_wp2_with (go_at_call 81; refine (Hg.out _).mono ?_; rintro e w2 ⟨rfl, rfl⟩)
        go_ret2
        exact HZ.out
      · by_cases h6 : s.size < p + 8 + n
        · have HZ := Lib.hid (HFin.out wr (Below.refl _ _) hown (by rw [HU.out, HR.out, if_pos (Or.inr h6)]))
          go_wp2_with (go_at_call 81; refine (Hg.out _).mono ?_; rintro e w2 ⟨rfl, rfl⟩)
          go_ret2
          exact HZ.out
        · have Hc := Lib.hid (fun w => crc32_any (s.extract (p + 4) (p + 4 + n)) w (by simp; omega))
          have Hg2 := Lib.hid (fun w => get_any (s.extract (p + 4 + n) (p + 8 + n)) w (by simp; omega))
          have hl1 := crcL_lt 0 (s.extract (p + 4) (p + 4 + n)).data.toList
          rw [if_neg (by omega)] at HR
          generalize crcL 0 (s.extract (p + 4) (p + 4 + n)).data.toList = m1 at Hc HR hl1
          generalize getL (s.extract (p + 4 + n) (p + 8 + n)).data.toList = m2 at Hg2 HR
          go_upto_region 7 with (go_at_call 81; refine (Hg.out _).mono ?_; rintro e w2 ⟨rfl, rfl⟩)
          go_cut [58] (fun s58 wc => s58 = .bool ((m1 : Int) != (m2 : Int)) ∧ Below wr.heap.size wr wc)
          case first =>
            have e1 : IntKind.i64.wrap ((p : Int) + 4) = (p : Int) + 4 := IntWalk.i64_in _ (by omega)
            have e2 : IntKind.i64.wrap ((p : Int) + 4 + n) = (p : Int) + 4 + n := IntWalk.i64_in _ (by omega)
            have e3 : IntKind.i64.wrap ((p : Int) + 8) = (p : Int) + 8 := IntWalk.i64_in _ (by omega)
            have e4 : IntKind.i64.wrap ((p : Int) + 8 + n) = (p : Int) + 8 + n := IntWalk.i64_in _ (by omega)
            have t2 : ((p : Int) + 4 + n).toNat = p + 4 + n := by omega
            have t4 : ((p : Int) + 8 + n).toNat = p + 8 + n := by omega
            have e5 : IntKind.u64.wrap (m1 : Int) = (m1 : Int) := IntWalk.u64_in _ (by omega)
            have g1 : 0 ≤ (p : Int) + 4 + n := by omega
            have g2 : (p : Int) + 4 + n ≤ (p : Int) + 8 + n := by omega
            have g3 : (p : Int) + 8 + n ≤ s.size := by omega
            have g4 : p + 4 + n ≤ p + 8 + n := by omega
            have g5 : p + 8 + n ≤ s.size := by omega
            go_region_with (first
              | (go_at_call 81; refine (Hg2.out _).mono ?_; rintro e w3 ⟨rfl, rfl⟩)
              | (go_at_call 80; refine (Hc.out _).mono ?_; rintro e w3 ⟨rfl, hb3⟩))
            all_goals (go_wp2_with fail; go_meet; exact ⟨rfl, ⟨hb3.os, hb3.tape, hb3.output, hb3.size, hb3.block⟩⟩)
          case rest =>
            obtain ⟨rfl, hbc⟩ := hcut
            have hownc : wc.ownsRow w.heap.size 9 1 (.slice a k c) k (out.map .string) := ownsRow_keep hown (fun i hi => hbc.block i (ownsRow_lt hown hi).2)
            have hszc := hbc.size
            have hszw := hb.size
            by_cases he : m1 = m2
            · subst he
              have hpar' : parse s = ((out ++ [s.extract (p + 4) (p + 4 + n)]) ++ (parseFrom s (200 - (k + 1)) (p + 8 + n)).1, (parseFrom s (200 - (k + 1)) (p + 8 + n)).2) := by
                rw [HP.out, HU.out, HR.out, if_neg (by simp)]
                have hz : (s.extract (p + 4) (p + 4 + n)).size = n := by simp; omega
                dsimp only
                rw [hz, List.append_assoc]; rfl
              have HP2 := Lib.hid hpar'
              have HHl := Lib.hid HL.out
              have HB := Lib.hid (hb.trans (hbc.mono hszw))
              have hno : ((m1 : Int) != (m1 : Int)) = false := by simp
              clear hown hpar' hrec
              go_wp2_with (at_builtin; refine wpList_app1 rfl _ _ 25 rfl w.heap.size 9 Try.underlying25 infoStr rfl (by decide) _ _ _ rfl hownc _ rfl rfl (oneCell_string _) ?_ ?_ ?_ ?_; omega; omega; omega; intro g1 cap1 w1 hown1 hgr1 hbw1 _)
              go_roundw
              case rel =>
                refine ⟨k + 1, p + 8 + n, out ++ [s.extract (p + 4) (p + 4 + n)], by omega, by omega, by go_num, by simp [HHl.out], HP2.out, ?_, HB.out.trans hbw1, _, _, rfl⟩
                rw [List.map_append]; exact hown1
              case measure => simp [intOf]; omega
            · have HZ := Lib.hid (HFin.out wc (hbc.mono hszw) hownc (by rw [HU.out, HR.out, if_pos he]))
              have hno : ((m1 : Int) != (m2 : Int)) = true := by simp; omega
              clear hrec
              go_wp2
              go_ret2
              exact HZ.out
    · have h0 : parseFrom s (200 - k) p = ([], p) := by
        by_cases hk2 : k < 200
        · rw [show 200 - k = (200 - k - 1) + 1 by omega]
          unfold parseFrom recAt
          rw [if_pos (by omega)]
        · rw [show 200 - k = 0 by omega]; rfl
      have HZ := Lib.hid (HFin.out wr (Below.refl _ _) hown h0)
      clear h0
      by_cases hk2 : k < 200
      · go_wp2
        go_ret2
        exact HZ.out
      · go_wp2
        go_ret2
        exact HZ.out
end Go.Proofs.Ytjdkhainlcalbaa
