/- The document's sum. -/
import Derived.Test.YtacifkdheeligaaPb
namespace Go.Proofs.Ytacifkdheeligaa
open Go.RowKit

def boolV (N : Nat) (f : Nat → Bool) : Array Value := ((List.range N).map fun p => Value.bool (f p)).toArray
theorem boolV_get (N : Nat) (f : Nat → Bool) {p : Nat} (h : p < N) : (boolV N f)[p]? = some (.bool (f p)) := by simp [boolV, h]
theorem boolV_set (N : Nat) (f : Nat → Bool) {p : Nat} (v : Bool) (h : p < N) : (boolV N f).setIfInBounds p (.bool v) = boolV N (fun q => if q = p then v else f q) := by
  apply Array.ext
  · simp [boolV]
  · intro i h1 h2
    simp only [boolV, List.getElem_toArray, List.getElem_map, List.getElem_range, List.setIfInBounds_toArray, List.getElem_set] at h1 h2 ⊢
    by_cases e : p = i
    · simp [e]
    · rw [if_neg e, if_neg (Ne.symm e)]
theorem boolV_congr (N : Nat) {f g : Nat → Bool} (h : ∀ p, p < N → f p = g p) : boolV N f = boolV N g := by
  unfold boolV; congr 1; exact List.map_congr_left fun p hp => by rw [h p (List.mem_range.1 hp)]

theorem infoBool : (Try.prog.info? 4).map (fun i => (i.zero, i.size, i.bytes)) = some (some (.bool false), 1, 1) := by kernel_rfl
theorem make_bools (w : World) (N : Nat) (h : N ≤ 1099511627776) :
    (Instr.makeSlice 97 (.int .i64 (N : Int)) (.int .i64 (N : Int))).run Try.prog w = .ok (.slice (some ⟨w.heap.size, 0, none⟩) N N) (w.alloc (.cells (boolV N fun _ => false) 4)) := by
  obtain ⟨i0, hi, hz0, hz1, hz2⟩ := info_parts infoBool
  have h1 := run_make (P := Try.prog) w 97 4 i0 (.bool false) Try.underlying97 hi hz0 .i64 .i64 N N (by omega) (by omega) (by rw [hz2]; omega) (by omega)
  rw [hz1] at h1
  simp only [Int.toNat_natCast, Nat.mul_one] at h1
  have e : madeCells (Value.bool false).cells N = boolV N (fun _ => false) := by
    apply Array.ext'
    rw [show (Value.bool false).cells = #[Value.bool false] from rfl, toList_madeCells_one]
    simp [boolV, List.map_const']
  rw [h1, e]

/-- so much of a step's turning -/
def divStep (l : Nat → Bool) (i k : Nat) : Nat → Bool := fun j => if decide (i ≤ j) && decide (j < i + k) then xor (l j) (polyBit (j - i)) else l j
theorem divStep_zero (l : Nat → Bool) (i : Nat) (j : Nat) : divStep l i 0 j = l j := by
  unfold divStep; rw [if_neg]; simp
theorem divStep_all (l : Nat → Bool) (i : Nat) (h : l i = true) (j : Nat) : divStep l i 33 j = elimStep l i j := by
  unfold divStep elimStep; rw [h]; simp only [Bool.true_and, show (j < i + 33) = (j ≤ i + 32) from propext ⟨by omega, by omega⟩]
theorem elimStep_none (l : Nat → Bool) (i : Nat) (h : l i = false) (j : Nat) : elimStep l i j = l j := by
  unfold elimStep; rw [h]; simp
theorem divStep_here (l : Nat → Bool) (i k : Nat) : divStep l i k (i + k) = l (i + k) := by
  unfold divStep; rw [if_neg]; simp
theorem divStep_turn (l : Nat → Bool) (i k : Nat) (h : polyBit k = true) (j : Nat) : (if j = i + k then !(l (i + k)) else divStep l i k j) = divStep l i (k + 1) j := by
  unfold divStep
  by_cases e : j = i + k
  · subst e; rw [if_pos rfl, if_pos (by simp), show i + k - i = k by omega, h]; simp
  · rw [if_neg e]
    have : (decide (j < i + k)) = decide (j < i + (k + 1)) := by apply decide_eq_decide.2; omega
    rw [this]
theorem divStep_keep (l : Nat → Bool) (i k : Nat) (h : polyBit k = false) (j : Nat) : divStep l i k j = divStep l i (k + 1) j := by
  unfold divStep
  by_cases e : j = i + k
  · subst e; rw [if_neg (by simp), if_pos (by simp), show i + k - i = k by omega, h]; simp
  · have : (decide (j < i + k)) = decide (j < i + (k + 1)) := by apply decide_eq_decide.2; omega
    rw [this]
theorem poly_test (k : Nat) (h : k ≤ 32) : (bits BinOp.and IntKind.i64 ((4374732215 : Int) / 2 ^ (32 - k)) 1 == 1) = polyBit k := by
  have : ∀ k : Nat, k < 33 → (bits BinOp.and IntKind.i64 ((4374732215 : Int) / 2 ^ (32 - k)) 1 == 1) = polyBit k := by decide +kernel
  exact this k (by omega)
theorem msg_test (s : ByteArray) (k : Nat) (h : k < 8 * s.size) (hk : k / 8 < s.size) : (((s[k / 8].toNat : Int) / 2 ^ (k % 8)).tmod 2 == 1) = msgBit s.data.toList k := by
  unfold msgBit
  have e : s.data.toList[k / 8]? = some s[k / 8] := by
    rw [List.getElem?_eq_getElem (by simp; omega)]; rfl
  rw [e, Option.getD_some, Nat.testBit_eq_decide_div_mod_eq]
  have e2 : ((s[k / 8].toNat : Int) / 2 ^ (k % 8)).tmod 2 = ((s[k / 8].toNat / 2 ^ (k % 8) % 2 : Nat) : Int) := by
    have e3 : ((s[k / 8].toNat : Int) / 2 ^ (k % 8)) = ((s[k / 8].toNat / 2 ^ (k % 8) : Nat) : Int) := by simp
    rw [e3]; rfl
  rw [e2]
  generalize s[k / 8].toNat / 2 ^ (k % 8) % 2 = z
  rw [Bool.eq_iff_iff]; simp; omega
theorem turned_step (m : Nat → Bool) (N k : Nat) (v : Bool) (h : v = turned m k) : boolV N (fun q => if q = k then v else (decide (q < k) && turned m q)) = boolV N (fun q => decide (q < k + 1) && turned m q) := by
  refine boolV_congr N fun p _ => ?_
  by_cases e : p = k
  · subst e; rw [if_pos rfl, h]; simp
  · rw [if_neg e]
    have : decide (p < k) = decide (p < k + 1) := by apply decide_eq_decide.2; omega
    rw [this]
theorem twice_if (k : Nat) (a b : Bool) (f : Nat → Bool) : (fun q => if q = k then b else (if q = k then a else f q)) = (fun q => if q = k then b else f q) := by
  funext q; split <;> rfl

/-- the rest's bits, summed -/
theorem sum_step (x k : Nat) (b : Bool) (h : x.testBit k = b) : x % 2 ^ (k + 1) = x % 2 ^ k + (if b then 2 ^ k else 0) := by
  rw [Nat.mod_pow_succ, ← h, Nat.testBit_eq_decide_div_mod_eq]
  rcases Nat.mod_two_eq_zero_or_one (x / 2 ^ k) with h2 | h2 <;> simp [h2]
theorem rest_bit (l : Nat → Bool) (i k : Nat) (h : k < 32) : (~~~ (window l i)).toNat.testBit k = !(l (i + k)) := by
  have := window_bit l i k h
  rw [← this, ← BitVec.getLsbD, BitVec.getLsbD_not]; simp [h]

set_option maxHeartbeats 800000 in
set_option maxRecDepth 100000 in
theorem crc2_any (s : ByteArray) (w : World) (hs : s.size ≤ 100000) :
    Calls Try.prog 34 #[.string s] w fun e w' => e = .returned (.int .u32 (crcL 0 s.data.toList)) ∧ Below w.heap.size w w' := by
  go_enter Try.func34, Try.ntmps34
  have hN : IntKind.i64.wrap (8 * (s.size : Int) + 32) = ((8 * s.size + 32 : Nat) : Int) := by rw [IntWalk.i64_in _ (by omega)]; omega
  have hmk := make_bools w (8 * s.size + 32) (by omega)
  have hb0 : BlockIs (w.alloc (.cells (boolV (8 * s.size + 32) fun _ => false) 4)) w.heap.size (boolV (8 * s.size + 32) fun _ => false) 4 := BlockIs.new _ _ _
  have HB0 := Lib.hid hb0
  clear hb0
  have HB1 := Lib.hid ((Below.refl w.heap.size w).alloc (Nat.le_refl _) (.cells (boolV (8 * s.size + 32) fun _ => false) 4))
  generalize hw0 : (w.alloc (.cells (boolV (8 * s.size + 32) fun _ => false) 4)) = w0 at *
  clear hw0
  generalize hNN : 8 * s.size + 32 = N at *
  go_wp2
  go_loopw [16] (fun i wr => ∃ k : Nat, k ≤ N ∧ i = .int .i64 k ∧ BlockIs wr w.heap.size (boolV N fun q => decide (q < k) && turned (msgBit s.data.toList) q) 4 ∧ Below w.heap.size w wr) (fun i _ => N - (intOf i).toNat)
  case atStart => exact ⟨0, Nat.zero_le _, rfl, by simpa using HB0.out, HB1.out⟩
  case round =>
    obtain ⟨k, hk, rfl, hb, hbw⟩ := hrel
    by_cases hlt : k < N
    · have c1 : wr.cell? ⟨w.heap.size, k, none⟩ = some (.bool (decide (k < k) && turned (msgBit s.data.toList) k)) := by rw [hb.cell, boolV_get _ _ hlt]
      have f1 : wr.frozen? ⟨w.heap.size, k, none⟩ = false := hb.free _
      by_cases h8 : k < 8 * s.size
      · have hk8 : k / 8 < s.size := by omega
        have hq := msg_test s k h8 hk8
        by_cases h32 : k < 32
        · have HQ := Lib.hid (show (!(((s[k / 8].toNat : Int) / 2 ^ (k % 8)).tmod 2 == 1)) = turned (msgBit s.data.toList) k by unfold turned; rw [if_pos h32, hq])
          have HB := Lib.hid hb
          clear hq hb
          go_wp2
          go_roundw
          case rel =>
            refine ⟨k + 1, by omega, by go_num, ?_, (hbw.setCell (Nat.le_refl _) _).setCell (Nat.le_refl _) _⟩
            have h1 := (HB.out.set k (.bool (((s[k / 8].toNat : Int) / 2 ^ (k % 8)).tmod 2 == 1))).set k (.bool !(((s[k / 8].toNat : Int) / 2 ^ (k % 8)).tmod 2 == 1))
            rw [boolV_set _ _ _ hlt, boolV_set _ _ _ hlt, twice_if, turned_step _ _ _ _ HQ.out] at h1
            exact h1
          case measure => simp [intOf]; omega
        · have HQ := Lib.hid (show ((((s[k / 8].toNat : Int) / 2 ^ (k % 8)).tmod 2 == 1)) = turned (msgBit s.data.toList) k by unfold turned; rw [if_neg h32, hq])
          have HB := Lib.hid hb
          clear hq hb
          go_wp2
          go_roundw
          case rel =>
            refine ⟨k + 1, by omega, by go_num, ?_, hbw.setCell (Nat.le_refl _) _⟩
            have h1 := (HB.out.set k (.bool (((s[k / 8].toNat : Int) / 2 ^ (k % 8)).tmod 2 == 1)))
            rw [boolV_set _ _ _ hlt, turned_step _ _ _ _ HQ.out] at h1
            exact h1
          case measure => simp [intOf]; omega
      · have hq : msgBit s.data.toList k = false := msgBit_end _ _ (by simp; omega)
        by_cases h32 : k < 32
        · have HQ := Lib.hid (show (!false) = turned (msgBit s.data.toList) k by unfold turned; rw [if_pos h32, hq])
          have HB := Lib.hid hb
          clear hq hb
          go_wp2
          go_roundw
          case rel =>
            refine ⟨k + 1, by omega, by go_num, ?_, (hbw.setCell (Nat.le_refl _) _).setCell (Nat.le_refl _) _⟩
            have h1 := (HB.out.set k (.bool false)).set k (.bool !false)
            rw [boolV_set _ _ _ hlt, boolV_set _ _ _ hlt, twice_if, turned_step _ _ _ _ HQ.out] at h1
            exact h1
          case measure => simp [intOf]; omega
        · have HQ := Lib.hid (show false = turned (msgBit s.data.toList) k by unfold turned; rw [if_neg h32, hq])
          have HB := Lib.hid hb
          clear hq hb
          go_wp2
          go_roundw
          case rel =>
            refine ⟨k + 1, by omega, by go_num, ?_, hbw.setCell (Nat.le_refl _) _⟩
            have h1 := (HB.out.set k (.bool false))
            rw [boolV_set _ _ _ hlt, turned_step _ _ _ _ HQ.out] at h1
            exact h1
          case measure => simp [intOf]; omega
    · obtain rfl : k = N := by omega
      have hb2 : BlockIs wr w.heap.size (boolV k (turned (msgBit s.data.toList))) 4 := by
        rw [boolV_congr k (g := turned (msgBit s.data.toList)) (fun p hp => by simp [hp])] at hb; exact hb
      have HB := Lib.hid hb2
      have HW := Lib.hid hbw
      clear hb hb2 hbw
      generalize hm : turned (msgBit s.data.toList) = m at *
      have Hm := Lib.hid hm
      clear hm
      go_wp2
      go_loopw [5] (fun i wr => ∃ j : Nat, j ≤ 8 * s.size ∧ i = .int .i64 j ∧ BlockIs wr w.heap.size (boolV k (elim m j)) 4 ∧ Below w.heap.size w wr) (fun i _ => 8 * s.size - (intOf i).toNat)
      case atStart => exact ⟨0, Nat.zero_le _, rfl, HB.out, HW.out⟩
      case round =>
        clear HB HW HB0 HB1
        obtain ⟨j, hj, rfl, hb, hbw⟩ := hrel
        by_cases hj8 : j < 8 * s.size
        · have c1 : wr.cell? ⟨w.heap.size, j, none⟩ = some (.bool (elim m j j)) := by rw [hb.cell, boolV_get _ _ (by omega)]
          have HB := Lib.hid hb
          have HW := Lib.hid hbw
          clear hb hbw
          by_cases hbit : elim m j j = true
          · rw [hbit] at c1
            go_wp2
            go_loopw [6] (fun i wr => ∃ d : Nat, d ≤ 33 ∧ i = .int .i64 d ∧ BlockIs wr w.heap.size (boolV k (divStep (elim m j) j d)) 4 ∧ Below w.heap.size w wr) (fun i _ => 33 - (intOf i).toNat)
            case atStart => exact ⟨0, Nat.zero_le _, rfl, by rw [boolV_congr k (fun p _ => divStep_zero (elim m j) j p)]; exact HB.out, HW.out⟩
            case round =>
              clear HB HW
              obtain ⟨d, hd, rfl, hb, hbw⟩ := hrel
              by_cases hd32 : d < 33
              · have hpt := poly_test d (by omega)
                have c2 : wr.cell? ⟨w.heap.size, j + d, none⟩ = some (.bool (elim m j (j + d))) := by rw [hb.cell, boolV_get _ _ (by omega), divStep_here]
                have f2 : wr.frozen? ⟨w.heap.size, j + d, none⟩ = false := hb.free _
                have HB := Lib.hid hb
                have HW := Lib.hid hbw
                clear hb hbw
                cases hp : polyBit d with
                | true =>
                  rw [hp] at hpt
                  go_wp2
                  go_roundw
                  case rel =>
                    refine ⟨d + 1, by omega, by go_num, ?_, HW.out.setCell (Nat.le_refl _) _⟩
                    have h1 := HB.out.set (j + d) (.bool !(elim m j (j + d)))
                    rw [boolV_set _ _ _ (by omega), boolV_congr k (fun p _ => divStep_turn (elim m j) j d hp p)] at h1
                    exact h1
                  case measure => simp [intOf]; omega
                | false =>
                  rw [hp] at hpt
                  go_wp2
                  go_roundw
                  case rel =>
                    refine ⟨d + 1, by omega, by go_num, ?_, HW.out⟩
                    have h1 := HB.out
                    rw [boolV_congr k (fun p _ => divStep_keep (elim m j) j d hp p)] at h1
                    exact h1
                  case measure => simp [intOf]; omega
              · obtain rfl : d = 33 := by omega
                have hb3 : BlockIs wr w.heap.size (boolV k (elim m (j + 1))) 4 := by
                  rw [boolV_congr k (fun p _ => divStep_all (elim m j) j hbit p)] at hb; exact hb
                have HB := Lib.hid hb3
                have HW := Lib.hid hbw
                clear hb hb3 hbw
                go_wp2
                go_roundw
                case rel => exact ⟨j + 1, by omega, by go_num, HB.out, HW.out⟩
                case measure => simp [intOf]; omega
          · have hbit : elim m j j = false := by simpa using hbit
            have HB2 := Lib.hid (show BlockIs wr w.heap.size (boolV k (elim m (j + 1))) 4 by
              have h1 := HB.out
              rw [boolV_congr k (fun p _ => (elimStep_none (elim m j) j hbit p).symm)] at h1; exact h1)
            rw [hbit] at c1
            go_wp2
            go_roundw
            case rel => exact ⟨j + 1, by omega, by go_num, HB2.out, HW.out⟩
            case measure => simp [intOf]; omega
        · obtain rfl : j = 8 * s.size := by omega
          have HB := Lib.hid hb
          have HW := Lib.hid hbw
          clear hb hbw
          have hfin := rest_crc s.data.toList
          have hle : s.data.toList.length = s.size := by simp
          rw [hle, Hm.out] at hfin
          have hbits := fun q (h : q < 32) => rest_bit (elim m (8 * s.size)) (8 * s.size) q h
          have hxlt := (~~~ (window (elim m (8 * s.size)) (8 * s.size))).isLt
          generalize (~~~ (window (elim m (8 * s.size)) (8 * s.size))).toNat = x at hfin hbits hxlt
          generalize elim m (8 * s.size) = l at *
          have HX := Lib.hid hfin
          have HBI := Lib.hid hbits
          clear hfin hbits
          go_wp2
          go_loop [7, 8] (fun c i => ∃ q : Nat, q ≤ 32 ∧ i = .int .i64 q ∧ c = .int .u32 ((x % 2 ^ q : Nat) : Int)) (fun _ i => 32 - (intOf i).toNat)
          case atStart => exact ⟨0, Nat.zero_le _, rfl, by rw [Nat.pow_zero, Nat.mod_one]; rfl⟩
          case round =>
            obtain ⟨q, hq, rfl, rfl⟩ := hrel
            by_cases hq32 : q < 32
            · have c1 : wr.cell? ⟨w.heap.size, 8 * s.size + q, none⟩ = some (.bool (l (8 * s.size + q))) := by rw [HB.out.cell, boolV_get _ _ (by omega)]
              have hbit := HBI.out q hq32
              have hs2 := sum_step x q _ hbit
              have hpw : 2 ^ q ≤ 2147483648 := Nat.le_trans (Nat.pow_le_pow_right (by decide) (show q ≤ 31 by omega)) (by decide)
              have hml : x % 2 ^ q < 2 ^ q := Nat.mod_lt _ (Nat.two_pow_pos q)
              cases hb : l (8 * s.size + q) with
              | true =>
                rw [hb] at c1 hs2
                have HS := Lib.hid hs2
                clear hs2 hbit
                generalize hxq : x % 2 ^ q = xq at *
                have HXQ := Lib.hid hxq
                clear hxq
                clear hpw hml
                go_wp2
                go_round
                case rel => exact ⟨q + 1, by omega, by go_num, by rw [HS.out]; simp⟩
                case measure => simp [intOf]; omega
              | false =>
                rw [hb] at c1 hs2
                have HS := Lib.hid hs2
                clear hs2 hbit
                have hv : (((x % 2 ^ q : Nat) : Int) + 2 ^ q % 4294967296) % 4294967296 = ((x % 2 ^ (q + 1) : Nat) : Int) := by
                  rw [HS.out, show ((2 : Int) ^ q) = ((2 ^ q : Nat) : Int) by simp]
                  simp only [Bool.not_false, if_true]
                  omega
                generalize hxq : x % 2 ^ q = xq at *
                have HXQ := Lib.hid hxq
                have HV := Lib.hid hv
                clear hxq hv hpw hml
                go_wp2
                go_round
                case rel => exact ⟨q + 1, by omega, by go_num, by rw [HV.out]⟩
                case measure => simp [intOf]; omega
            · obtain rfl : q = 32 := by omega
              have hx : x % 2 ^ 32 = x := Nat.mod_eq_of_lt hxlt
              rw [hx]
              clear hx
              go_wp2
              go_ret
              exact ⟨by rw [HX.out]; rfl, HW.out⟩
end Go.Proofs.Ytacifkdheeligaa
