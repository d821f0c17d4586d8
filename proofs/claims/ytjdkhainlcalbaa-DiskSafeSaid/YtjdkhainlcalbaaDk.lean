/- The disk: what lies in memory, and what each call of it does. -/
import Derived.Test.YtjdkhainlcalbaaKv
namespace Go.Proofs.Ytjdkhainlcalbaa
open Go.RowKit Go.Maps

def BlockIs (w : World) (b : Nat) (cs : Array Value) (t : TypeId) : Prop := w.heap[b]? = some (.cells cs t (0, 0))
theorem BlockIs.cell {w : World} {b : Nat} {cs : Array Value} {t : TypeId} (h : BlockIs w b cs t) (i : Nat) : w.cell? ⟨b, i, none⟩ = cs[i]? := by
  unfold BlockIs at h; simp [World.cell?, h]
theorem BlockIs.free {w : World} {b : Nat} {cs : Array Value} {t : TypeId} (h : BlockIs w b cs t) (i : Nat) : w.frozen? ⟨b, i, none⟩ = false := by
  unfold BlockIs at h; simp [World.frozen?, h]
theorem BlockIs.set {w : World} {b : Nat} {cs : Array Value} {t : TypeId} (h : BlockIs w b cs t) (i : Nat) (v : Value) : BlockIs (w.setCell ⟨b, i, none⟩ v) b (cs.setIfInBounds i v) t := by
  unfold BlockIs at h ⊢; simp [World.setCell, Array.getElem?_modify, h]
theorem BlockIs.keep {w w' : World} {b : Nat} {cs : Array Value} {t : TypeId} (h : BlockIs w b cs t) (he : w'.heap[b]? = w.heap[b]?) : BlockIs w' b cs t := he.trans h
theorem BlockIs.lt {w : World} {b : Nat} {cs : Array Value} {t : TypeId} (h : BlockIs w b cs t) : b < w.heap.size := (Array.getElem?_eq_some_iff.1 h).1
theorem BlockIs.new (w : World) (cs : Array Value) (t : TypeId) : BlockIs (w.alloc (.cells cs t)) w.heap.size cs t := (MapKept.heap_alloc w _).1

def dkCells (room : Int) (bm bs : Nat) (v : Value) (arm : Int) (dead : Bool) : Array Value := #[.int .i64 room, .map (some bm), .map (some bs), v, .int .i64 arm, .bool dead]

/-- the disk's count-down: the number that is left, dead or not -/
def armNext (arm : Int) (dead : Bool) : Int × Bool := if arm = 0 then (-1, true) else if 0 < arm then (arm - 1, dead) else (arm, dead)

set_option maxRecDepth 100000 in
set_option maxHeartbeats 400000 in
theorem alive_any (b : Nat) (room : Int) (bm bs : Nat) (v : Value) (arm : Int) (dead : Bool) (w : World) (h : BlockIs w b (dkCells room bm bs v arm dead) 114) (ha : -1 ≤ arm ∧ arm ≤ 9223372036854775807) :
    Calls Try.prog 61 #[.pointer (some ⟨b, 0, none⟩)] w fun e w' => e = .returned (.bool (!(armNext arm dead).2)) ∧
      BlockIs w' b (dkCells room bm bs v (armNext arm dead).1 (armNext arm dead).2) 114 ∧ Touch (· = b) w w' := by
  have c4 : w.cell? ⟨b, 4, none⟩ = some (.int .i64 arm) := h.cell 4
  have c5 : w.cell? ⟨b, 5, none⟩ = some (.bool dead) := h.cell 5
  have f4 : w.frozen? ⟨b, 4, none⟩ = false := h.free 4
  have f5 : w.frozen? ⟨b, 5, none⟩ = false := h.free 5
  have H := Lib.hid h
  clear h
  rcases Int.lt_trichotomy arm 0 with h0 | h0 | h0
  · have e : armNext arm dead = (arm, dead) := by unfold armNext; rw [if_neg (by omega), if_neg (by omega)]
    have E := Lib.hid e
    clear e
    go_enter Try.func61, Try.ntmps61
    go_wp2
    go_ret
    rw [E.out]
    exact ⟨rfl, H.out, Touch.refl _ _⟩
  · subst h0
    go_enter Try.func61, Try.ntmps61
    go_wp2
    go_ret
    exact ⟨rfl, (H.out.set 5 (.bool true)).set 4 (.int .i64 (-1)), (Touch.setc _ _ _ _).trans (Touch.setc _ _ _ _) (fun _ _ h => h)⟩
  · have e : armNext arm dead = (arm - 1, dead) := by unfold armNext; rw [if_neg (by omega), if_pos h0]
    have E := Lib.hid e
    clear e
    go_enter Try.func61, Try.ntmps61
    go_wp2
    go_ret
    rw [E.out]
    exact ⟨rfl, H.out.set 4 (.int .i64 (arm - 1)), Touch.setc _ _ _ _⟩

def nameByte (c : UInt8) : Bool := decide (32 < c.toNat) && decide (c.toNat ≤ 126) && decide (c.toNat ≠ 47)
theorem nameByte_yes {c : UInt8} (h : 32 < (c.toNat : Int) ∧ (c.toNat : Int) ≤ 126 ∧ (c.toNat : Int) ≠ 47) : nameByte c = true := by simp [nameByte]; omega
theorem nameByte_no {c : UInt8} (h : (c.toNat : Int) ≤ 32 ∨ 126 < (c.toNat : Int) ∨ (c.toNat : Int) = 47) : nameByte c = false := by simp [nameByte]; omega
/-- may a file be called so? -/
def dkName (s : ByteArray) : Bool := s.data.toList.all nameByte && decide (0 < s.size) && decide (s.size ≤ 80)

set_option maxRecDepth 100000 in
set_option maxHeartbeats 400000 in
theorem name_any (s : ByteArray) (w : World) (hs : s.size ≤ 9223372036854775807) :
    Calls Try.prog 62 #[.string s] w fun e w' => e = .returned (.bool (dkName s)) ∧ Below w.heap.size w w' := by
  obtain ⟨cap, w1, hcv, hb, hz, hcell⟩ := bytes_of_string (P := Try.prog) w 9 61 5 s Try.underlying9 Try.underlying61 Try.underlying5
  have Hcell := Lib.hid hcell
  clear hcell
  go_enter Try.func62, Try.ntmps62
  go_wp2
  go_loop [8] (fun i => ∃ k : Nat, k ≤ s.size ∧ i = .int .i64 k ∧ (s.data.toList.take k).all nameByte = true) (fun i => s.size - (intOf i).toNat)
  case atStart => exact ⟨0, Nat.zero_le _, rfl, rfl⟩
  case round =>
    obtain ⟨k, hk, rfl, hall⟩ := hrel
    have Hall := Lib.hid hall
    clear hall
    by_cases hlt : k < s.size
    · have hc := Hcell.out k hlt
      have Hf : nameByte s[k] = false → dkName s = false := by
        intro h; unfold dkName; rw [ba_all_false s k hlt h]; rfl
      have Hs := ba_all_snoc (p := nameByte) s k hlt Hall.out
      generalize s[k] = c at hc Hf Hs
      have HF := Lib.hid Hf
      have HS := Lib.hid Hs
      clear Hf Hs
      rcases (by omega : (c.toNat : Int) ≤ 32 ∨ (32 < (c.toNat : Int) ∧ 126 < (c.toNat : Int)) ∨ (c.toNat : Int) = 47 ∨ (32 < (c.toNat : Int) ∧ (c.toNat : Int) ≤ 126 ∧ (c.toNat : Int) ≠ 47)) with h1 | ⟨h1, h2⟩ | h1 | ⟨h1, h2, h3⟩
      · go_wp2
        go_ret
        exact ⟨ret_bool (HF.out (nameByte_no (by omega))).symm, hb⟩
      · go_wp2
        go_ret
        exact ⟨ret_bool (HF.out (nameByte_no (by omega))).symm, hb⟩
      · have h1' := Lib.hid h1
        go_wp2
        go_ret
        exact ⟨ret_bool (HF.out (nameByte_no (by have := h1'.out; omega))).symm, hb⟩
      · have h4 : ((c.toNat : Int) == 47) = false := by simp; omega
        go_wp2
        go_round
        case rel => exact ⟨k + 1, by omega, by go_num, HS.out (nameByte_yes (by omega))⟩
        case measure => simp [intOf]; omega
    · obtain rfl : k = s.size := by omega
      have e : dkName s = (!s.toList.isEmpty && decide ((s.size : Int) ≤ 80)) := by
        unfold dkName
        have ha := Hall.out
        rw [ba_take_all] at ha
        rw [ha, toList_isEmpty]
        rw [Bool.eq_iff_iff]
        simp only [Bool.true_and, Bool.and_eq_true, decide_eq_true_eq, Bool.not_eq_true', decide_eq_false_iff_not]
        omega
      have E := Lib.hid e
      clear e
      by_cases h0 : s.toList = []
      · go_wp2
        go_ret
        exact ⟨ret_bool (by rw [E.out, h0]; rfl), hb⟩
      · go_wp2
        go_ret
        exact ⟨ret_bool E.out.symm, hb⟩
end Go.Proofs.Ytjdkhainlcalbaa
