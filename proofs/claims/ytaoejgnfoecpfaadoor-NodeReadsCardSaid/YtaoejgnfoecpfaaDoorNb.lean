/- A tree's nodes: facts, AsPlain, Target. -/
import Derived.Test.YtaoejgnfoecpfaaDoorNa
import Derived.BigQuiet
namespace Go.Proofs.YtaoejgnfoecpfaaDoor
open Go.RowKit

def FactsPost (x : Nr) (w : World) (e : Ending) (w' : World) : Prop := e = .returned (.tuple #[.int .i64 x.mode, .int .i64 x.time]) ∧ Below w.heap.size w w'
theorem facts_any (v : Value) (x : Nr) (w : World) (h : NodeIs w v x) (hk : kindOk x = true) : Calls Tryd.prog 65 #[v] w (FactsPost x w) := by
  have t1 := taFF
  have t2 := taPP
  have t3 := taSS
  have t4 := taPF
  have t5 := taSF
  have t8 := taSP
  rcases h with ⟨h, rfl⟩ | ⟨h, A, c, rfl, _⟩ | ⟨h, rfl⟩ | ⟨h, _⟩
  · unfold folV
    have hb := (Below.refl w.heap.size w).alloc (Nat.le_refl _) (.cells #[.string x.at_, .int .i64 x.mode, .int .i64 x.time] 26)
    have HB := Lib.hid hb
    clear hk h hb
    go_enter Tryd.func65, Tryd.ntmps65
    go_wp2
    go_quiet (fail)
    go_wp2
    go_ret2
    exact ⟨rfl, Go.below_drewN HB.out nq⟩
  · unfold plaV
    have hb := (Below.refl w.heap.size w).alloc (Nat.le_refl _) (.cells #[.string x.at_, .int .i64 x.mode, .int .i64 x.time, .int .i64 x.size, .slice A x.chunks.length c] 75)
    have HB := Lib.hid hb
    clear hk h hb
    go_enter Tryd.func65, Tryd.ntmps65
    go_wp2
    go_quiet (fail)
    go_wp2
    go_ret2
    exact ⟨rfl, Go.below_drewN HB.out nq⟩
  · unfold symV
    have hb := (Below.refl w.heap.size w).alloc (Nat.le_refl _) (.cells #[.string x.at_, .int .i64 x.mode, .int .i64 x.time, .string x.target] 103)
    have HB := Lib.hid hb
    clear hk h hb
    go_enter Tryd.func65, Tryd.ntmps65
    go_wp2
    go_quiet (fail)
    go_wp2
    go_ret2
    exact ⟨rfl, Go.below_drewN HB.out nq⟩
  · rw [hk] at h; cases h
theorem tgt_of {s : ByteArray} (ha : (s.data.toList.all fun c => decide (c ≠ 0)) = true) : tgt s = (!s.toList.isEmpty && decide ((s.size : Int) ≤ 200)) := by
  unfold tgt
  rw [ha, toList_isEmpty, Bool.eq_iff_iff]
  simp only [Bool.and_true, Bool.and_eq_true, decide_eq_true_eq, Bool.not_eq_true', decide_eq_false_iff_not]
  omega
theorem tgt_no {s : ByteArray} (ha : (s.data.toList.all fun c => decide (c ≠ 0)) = false) : tgt s = false := by unfold tgt; rw [ha, Bool.and_false]
theorem u8_zero (c : UInt8) : decide (c ≠ 0) = !((c.toNat : Int) == 0) := by
  rw [Bool.eq_iff_iff]
  simp only [ne_eq, decide_eq_true_eq, Bool.not_eq_true', beq_eq_false_iff_ne]
  constructor
  · intro h e
    apply h
    apply UInt8.toNat_inj.1
    show c.toNat = 0
    omega
  · rintro h rfl
    exact h rfl
set_option maxRecDepth 100000 in
set_option maxHeartbeats 400000 in
theorem target_any (s : ByteArray) (w : World) (hs : s.size ≤ 140737488355328) :
    Calls Tryd.prog 45 #[.string s] w fun e w' => e = .returned (.bool (tgt s)) ∧ Below w.heap.size w w' := by
  obtain ⟨cap, w1, hcv, hb, hz, hcell⟩ := bytes_of_string (P := Tryd.prog) w 9 46 5 s Tryd.underlying9 Tryd.underlying46 Tryd.underlying5
  have Hcell := Lib.hid hcell
  clear hcell
  go_enter Tryd.func45, Tryd.ntmps45
  go_wp2
  go_loop [8] (fun i => ∃ k : Nat, k ≤ s.size ∧ i = .int .i64 k ∧ ((s.data.toList.take k).all fun c => decide (c ≠ 0)) = true) (fun i => s.size - (intOf i).toNat)
  case atStart => exact ⟨0, Nat.zero_le _, rfl, rfl⟩
  case round =>
    obtain ⟨k, hk, rfl, hall⟩ := hrel
    have Hall := Lib.hid hall
    clear hall
    by_cases hlt : k < s.size
    · have hc := Hcell.out k hlt
      have Hf := Lib.hid fun (h : decide (s[k] ≠ 0) = false) => tgt_no (ba_all_false (p := fun c => decide (c ≠ 0)) s k hlt h)
      have Hs := Lib.hid (ba_all_snoc (p := fun c => decide (c ≠ 0)) s k hlt Hall.out)
      have hz0 := u8_zero s[k]
      generalize s[k] = c at *
      cases hq : ((c.toNat : Int) == 0) with
      | true =>
        rw [hq] at hz0
        have HZ := Lib.hid hz0
        clear hz0
        go_wp2
        go_ret
        exact ⟨ret_bool (Hf.out HZ.out).symm, hb⟩
      | false =>
        rw [hq] at hz0
        have HZ := Lib.hid hz0
        clear hz0
        go_wp2
        go_round
        case rel => exact ⟨k + 1, by omega, by go_num, Hs.out HZ.out⟩
        case measure => simp [intOf]; omega
    · obtain rfl : k = s.size := by omega
      have e := tgt_of (s := s) (by have := Hall.out; rwa [ba_take_all] at this)
      have E := Lib.hid e
      clear e
      by_cases h0 : s.toList.isEmpty = true
      · rw [h0] at E
        go_wp2
        go_ret
        exact ⟨ret_bool (by rw [E.out]; rfl), hb⟩
      · have h0' : s.toList.isEmpty = false := by simpa using h0
        rw [h0'] at E
        clear h0
        go_wp2
        go_ret
        exact ⟨ret_bool (by rw [E.out]; rfl), hb⟩
theorem blk5 {w : World} {g : Nat} {t : TypeId} {a b c d e : Value} (h : Blk w g t #[a, b, c, d, e]) : w.cell? ⟨g, 0, none⟩ = some a ∧ w.cell? ⟨g, 1, none⟩ = some b ∧ w.cell? ⟨g, 2, none⟩ = some c ∧ w.cell? ⟨g, 3, none⟩ = some d ∧ w.cell? ⟨g, 4, none⟩ = some e :=
  ⟨h.cell 0, h.cell 1, h.cell 2, h.cell 3, h.cell 4⟩
set_option maxRecDepth 100000 in
set_option maxHeartbeats 400000 in
theorem asPlain_pl (a : ByteArray) (m t z : Int) (A : Option Addr) (n c : Nat) (w : World) :
    Calls Tryd.prog 42 #[plaV a m t z A n c] w fun e w' => e = .returned (.tuple #[.agg #[.string a, .int .i64 m, .int .i64 t, .int .i64 z, .slice A n c], .bool true]) ∧ Below w.heap.size w w' := by
  have t2 := taPP
  unfold plaV
  have hk := (Blk.new w 75 #[.string a, .int .i64 m, .int .i64 t, .int .i64 z, .slice A n c]).alloc (.cells #[.string a, .int .i64 m, .int .i64 t, .int .i64 z, .slice A n c] 75)
  have hb : Below w.heap.size w ((w.alloc (.cells #[.string a, .int .i64 m, .int .i64 t, .int .i64 z, .slice A n c] 75)).alloc (.cells #[.string a, .int .i64 m, .int .i64 t, .int .i64 z, .slice A n c] 75)) := ((Below.refl _ _).alloc (Nat.le_refl _) _).alloc (by simp) _
  obtain ⟨r0, r1, r2, r3, r4⟩ := blk5 hk
  have HB := Lib.hid hb
  clear hk hb
  go_enter Tryd.func42, Tryd.ntmps42
  go_wp2
  refine bodyPost_ret (v := .tuple #[.agg #[.string a, .int .i64 m, .int .i64 t, .int .i64 z, .slice A n c], .bool true]) (by simp [results, Tryd.results42, go_sem, r0, r1, r2, r3, r4]) rfl ?_
  exact ⟨rfl, HB.out⟩
/-- a value that is no file -/
def NoPl (v : Value) : Prop := (∃ u, v = .iface 26 u) ∨ (∃ u, v = .iface 103 u) ∨ (∃ u, v = .iface 134 u) ∨ v = .nilIface
set_option maxRecDepth 100000 in
set_option maxHeartbeats 400000 in
theorem asPlain_no (v : Value) (hv : NoPl v) (w : World) :
    Calls Tryd.prog 42 #[v] w fun e w' => e = .returned (.tuple #[.agg #[.string ⟨#[]⟩, .int .i64 0, .int .i64 0, .int .i64 0, .slice none 0 0], .bool false]) ∧ Below w.heap.size w w' := by
  have t1 := taFP
  have t2 := taSP
  have t3 := taQP
  have t4 := taNP
  unfold zPla at t1 t2 t3 t4
  have hk := (Blk.new w 75 #[.string ⟨#[]⟩, .int .i64 0, .int .i64 0, .int .i64 0, .slice none 0 0]).alloc (.cells #[.string ⟨#[]⟩, .int .i64 0, .int .i64 0, .int .i64 0, .slice none 0 0] 75)
  have hb : Below w.heap.size w ((w.alloc (.cells #[.string ⟨#[]⟩, .int .i64 0, .int .i64 0, .int .i64 0, .slice none 0 0] 75)).alloc (.cells #[.string ⟨#[]⟩, .int .i64 0, .int .i64 0, .int .i64 0, .slice none 0 0] 75)) := ((Below.refl _ _).alloc (Nat.le_refl _) _).alloc (by simp) _
  obtain ⟨r0, r1, r2, r3, r4⟩ := blk5 hk
  have HB := Lib.hid hb
  clear hk hb
  rcases hv with ⟨u, rfl⟩ | ⟨u, rfl⟩ | ⟨u, rfl⟩ | rfl
  all_goals
    go_enter Tryd.func42, Tryd.ntmps42
    go_wp2
    refine bodyPost_ret (v := .tuple #[.agg #[.string ⟨#[]⟩, .int .i64 0, .int .i64 0, .int .i64 0, .slice none 0 0], .bool false]) (by simp [results, Tryd.results42, go_sem, r0, r1, r2, r3, r4]) rfl ?_
    exact ⟨rfl, HB.out⟩
theorem pis_big (s : ByteArray) (w : World) (he : Env w) (hs : s.size ≤ 140737488355328) : Calls Tryd.prog 15 #[.string s] w fun e w' => e = .returned (.bool (isPath s)) ∧ Below w.heap.size w w' := by
  by_cases h : s.size ≤ 1099511627776
  · exact pis_any s w he h
  · have HN := Lib.hid (show isPath s = false by unfold isPath; rw [decide_eq_false (show ¬ s.size ≤ 200 by omega)]; simp)
    have h60 : (200 : Int) < (s.size : Int) := by omega
    have HB0 := Lib.hid ((Below.refl w.heap.size w).alloc (Nat.le_refl _) (.cells #[.bool false] 4))
    go_enter Tryd.func15, Tryd.ntmps15
    go_wp2
    have r0 : (w.alloc (.cells #[.bool false] 4)).cell? ⟨w.heap.size, 0, none⟩ = some (.bool false) := (Blk.new w 4 #[.bool false]).cell 0
    refine bodyPost_ret (v := .bool false) (by simp [results, Tryd.results15, go_sem, r0]) rfl ?_
    exact ⟨ret_bool HN.out.symm, HB0.out⟩
/-- a node's method by its type -/
theorem mFol (n : Nat) (u : Value) (w : World) : (Go.method (n + 1) 26 u "Path").run Tryd.prog w = .ok (176, u) w := by kernel_rfl
theorem mPla (n : Nat) (u : Value) (w : World) : (Go.method (n + 1) 75 u "Path").run Tryd.prog w = .ok (178, u) w := by kernel_rfl
theorem mSym (n : Nat) (u : Value) (w : World) : (Go.method (n + 1) 103 u "Path").run Tryd.prog w = .ok (179, u) w := by kernel_rfl
theorem pathF (a : ByteArray) (m t : Int) (w : World) : Calls Tryd.prog 176 #[.agg #[.string a, .int .i64 m, .int .i64 t]] w fun e w' => e = .returned (.string a) ∧ Below w.heap.size w w' := by
  have hb := (Below.refl w.heap.size w).alloc (Nat.le_refl _) (.cells #[.string a, .int .i64 m, .int .i64 t] 26)
  go_enter Tryd.func176, Tryd.ntmps176
  go_wp2
  go_ret
  exact ⟨rfl, hb⟩
theorem pathP (a : ByteArray) (m t z : Int) (A : Option Addr) (n c : Nat) (w : World) : Calls Tryd.prog 178 #[.agg #[.string a, .int .i64 m, .int .i64 t, .int .i64 z, .slice A n c]] w fun e w' => e = .returned (.string a) ∧ Below w.heap.size w w' := by
  have hb := (Below.refl w.heap.size w).alloc (Nat.le_refl _) (.cells #[.string a, .int .i64 m, .int .i64 t, .int .i64 z, .slice A n c] 75)
  go_enter Tryd.func178, Tryd.ntmps178
  go_wp2
  go_ret
  exact ⟨rfl, hb⟩
theorem pathS (a : ByteArray) (m t : Int) (g : ByteArray) (w : World) : Calls Tryd.prog 179 #[.agg #[.string a, .int .i64 m, .int .i64 t, .string g]] w fun e w' => e = .returned (.string a) ∧ Below w.heap.size w w' := by
  have hb := (Below.refl w.heap.size w).alloc (Nat.le_refl _) (.cells #[.string a, .int .i64 m, .int .i64 t, .string g] 103)
  go_enter Tryd.func179, Tryd.ntmps179
  go_wp2
  go_ret
  exact ⟨rfl, hb⟩
end Go.Proofs.YtaoejgnfoecpfaaDoor
