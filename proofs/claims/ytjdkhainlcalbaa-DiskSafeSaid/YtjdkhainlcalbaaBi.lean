/- Numbers as bytes, sums of bytes. -/
import Derived.Test.YtjdkhainlcalbaaDk
namespace Go.Proofs.Ytjdkhainlcalbaa
open Go.RowKit

/-- x's n lowest bytes. -/
def putL (x : Nat) : Nat → List UInt8
  | 0 => []
  | n + 1 => UInt8.ofNat (x % 256) :: putL (x / 256) n

theorem putL_len (x n : Nat) : (putL x n).length = n := by
  induction n generalizing x with
  | zero => rfl
  | succ n ih => simp [putL, ih]

theorem putL_snoc (x n : Nat) : putL x (n + 1) = putL x n ++ [UInt8.ofNat (x / 256 ^ n % 256)] := by
  induction n generalizing x with
  | zero => simp [putL]
  | succ n ih =>
    rw [putL, ih (x / 256), putL, List.cons_append, Nat.div_div_eq_div_mul, Nat.pow_succ, Nat.mul_comm 256]

theorem infoByte : (Try.prog.info? 5).map (fun i => (i.zero, i.size, i.bytes)) = some (some (.int .u8 0), 1, 1) := by kernel_rfl
set_option maxHeartbeats 400000 in
set_option maxRecDepth 100000 in
theorem put_any (x n : Nat) (w : World) (hx : x < 18446744073709551616) (hn : n ≤ 64) :
    Calls Try.prog 79 #[.int .u64 x, .int .i64 n] w fun e w' => e = .returned (.string ⟨(putL x n).toArray⟩) ∧ Below w.heap.size w w' := by
  have Hx := Lib.hid hx
  clear hx
  go_enter Try.func79, Try.ntmps79
  go_wp2
  go_loopw [0, 5, 8] (fun y v i wr => ∃ k : Nat, k ≤ n ∧ i = .int .i64 k ∧ y = .int .u64 ((x / 256 ^ k : Nat) : Int) ∧ wr.ownsRow w.heap.size 5 1 v k (bytesV (putL x k)) ∧ Below w.heap.size w wr) (fun _ _ i _ => n - (intOf i).toNat)
  case atStart => exact ⟨0, Nat.zero_le _, rfl, by simp, ⟨rfl, Or.inl ⟨rfl, rfl⟩⟩, Below.refl _ _⟩
  case round =>
    obtain ⟨k, hk, rfl, rfl, hown, hb⟩ := hrel
    have hlt : x / 256 ^ k < 18446744073709551616 := Nat.lt_of_le_of_lt (Nat.div_le_self _ _) Hx.out
    generalize hy : x / 256 ^ k = y at hlt ⊢
    have Hy := Lib.hid hy
    have Hlt := Lib.hid hlt
    clear hy hlt
    have hcv := fun (v : Value) (h : wr.ownsRow w.heap.size 5 1 v k (bytesV (putL x k))) => run_convert_own 61 9 5 Try.underlying61 Try.underlying5 Try.underlying9 h
    have hcv := hcv _ hown
    have hsz := hb.size
    go_wp2_with (at_builtin; refine wpList_app1 rfl _ _ 61 rfl w.heap.size 5 Try.underlying61 infoByte rfl (by decide) _ _ _ rfl hown _ rfl rfl (oneCell_int _ _) ?_ ?_ ?_ ?_; omega; omega; omega; intro g1 cap1 w1 hown' hgr hbw _)
    · go_roundw
      case rel =>
        refine ⟨k + 1, by omega, by go_num, ?_, ?_, hb.trans hbw⟩
        · rw [← Hy.out, Nat.pow_succ, ← Nat.div_div_eq_div_mul]; rfl
        · rw [putL_snoc, Hy.out, bytesV_app]; simpa [bytesV] using hown'
      case measure => simp [intOf]; omega
    · obtain rfl : k = n := by omega
      go_ret
      exact ⟨rfl, hb⟩

/-- the number of bytes, the lowest first -/
def getL : List UInt8 → Nat
  | [] => 0
  | c :: r => c.toNat + 256 * getL r
theorem getL_lt (l : List UInt8) : getL l < 256 ^ l.length := by
  induction l with
  | nil => simp [getL]
  | cons c r ih =>
    have := c.toNat_lt
    simp only [getL, List.length_cons, Nat.pow_succ]
    omega
set_option maxHeartbeats 400000 in
set_option maxRecDepth 100000 in
theorem get_any (s : ByteArray) (w : World) (hs : s.size ≤ 8) :
    Calls Try.prog 81 #[.string s] w fun e w' => e = .returned (.int .u64 (getL s.data.toList)) ∧ w = w' := by
  go_enter Try.func81, Try.ntmps81
  go_wp2
  go_loop [3, 4] (fun x i => ∃ k : Nat, k ≤ s.size ∧ i = .int .i64 ((k : Int) - 1) ∧ x = .int .u64 (getL (s.data.toList.drop k))) (fun _ i => (intOf i + 1).toNat)
  case atStart => exact ⟨s.size, Nat.le_refl _, rfl, by rw [List.drop_of_length_le (by simp)]; rfl⟩
  case round =>
    obtain ⟨k, hk, rfl, rfl⟩ := hrel
    have hlt := getL_lt (s.data.toList.drop k)
    by_cases h0 : 0 < k
    · have hdrop : s.data.toList.drop (k - 1) = s[k - 1] :: s.data.toList.drop k := by
        rw [List.drop_eq_getElem_cons (by simp; omega)]
        congr 1
        congr 1; omega
      have hv : ∀ x : Nat, x < 256 ^ (s.data.toList.drop k).length → bits BinOp.or IntKind.u64 (IntKind.u64.wrap ((x : Int) * 256)) (IntKind.u64.wrap (s[k - 1].toNat : Int)) = ((s[k - 1].toNat + 256 * x : Nat) : Int) := by
        intro x hx
        have hc := s[k - 1].toNat_lt
        have hx2 : x < 72057594037927936 := by
          refine Nat.lt_of_lt_of_le hx (Nat.le_trans (Nat.pow_le_pow_right (by decide) (show (s.data.toList.drop k).length ≤ 7 by simp; omega)) (by decide))
        rw [IntWalk.u64_in _ (by omega), IntWalk.u64_in _ (by omega)]
        have e : ((x : Int) * 256) = ((x * 256 : Nat) : Int) := by omega
        rw [e, bits_or_u64_nat _ _ (by omega) (by omega)]
        congr 1
        have := Nat.two_pow_add_eq_or_of_lt (i := 8) (b := s[k - 1].toNat) hc x
        rw [Nat.mul_comm x 256, show 256 = 2 ^ 8 from rfl, ← this]; omega
      have hv := hv _ hlt
      rw [show s[k - 1].toNat + 256 * getL (s.data.toList.drop k) = getL (s.data.toList.drop (k - 1)) by rw [hdrop]; rfl] at hv
      have HV := Lib.hid hv
      clear hv hdrop
      generalize hx : getL (s.data.toList.drop k) = x at hlt HV ⊢
      have Hx := Lib.hid hx
      have Hlt := Lib.hid hlt
      clear hx hlt
      go_wp2
      go_round
      case rel => exact ⟨k - 1, by omega, by rw [show ((k - 1 : Nat) : Int) = (k : Int) - 1 by omega], by rw [HV.out]⟩
      case measure => simp [intOf]; omega
    · obtain rfl : k = 0 := by omega
      clear hlt
      generalize hx : getL (s.data.toList.drop 0) = x
      have Hx := Lib.hid hx
      clear hx
      go_wp2
      go_ret
      exact ⟨by rw [← Hx.out]; rfl, rfl⟩

def crcHalf (c : Nat) : Nat := if c % 2 = 1 then c / 2 ^^^ 3988292384 else c / 2
def crcEntry (b : Nat) : Nat := crcHalf (crcHalf (crcHalf (crcHalf (crcHalf (crcHalf (crcHalf (crcHalf b)))))))
/-- a table of numbers, as cells -/
def tabV (f : Nat → Nat) : Array Value := ((List.range 256).map fun p => Value.int .u32 (f p)).toArray
theorem tabV_get (f : Nat → Nat) {p : Nat} (h : p < 256) : (tabV f)[p]? = some (.int .u32 (f p)) := by simp [tabV, h]
theorem tabV_set (f : Nat → Nat) {p : Nat} (v : Nat) (_h : p < 256) : (tabV f).setIfInBounds p (.int .u32 v) = tabV (fun q => if q = p then v else f q) := by
  apply Array.ext
  · simp [tabV]
  · intro i h1 h2
    simp only [tabV, List.getElem_toArray, List.getElem_map, List.getElem_range, List.setIfInBounds_toArray, List.getElem_set] at h1 h2 ⊢
    by_cases e : p = i
    · simp [e]
    · rw [if_neg e, if_neg (Ne.symm e)]

def isPow (p : Nat) : Bool := p == 1 || p == 2 || p == 4 || p == 8 || p == 16 || p == 32 || p == 64 || p == 128
def tabOne (i p : Nat) : Nat := if isPow p && decide (i < p) then crcEntry p else 0
theorem zeroTab : Try.zeroCells157 = tabV (tabOne 128) := by kernel_rfl
theorem tabOne_facts (j : Nat) (hj : j < 8) : tabOne (128 / 2 ^ j) (2 * (128 / 2 ^ j)) = (if j = 0 then 0 else crcEntry (2 * (128 / 2 ^ j))) ∧ (j ≠ 0 → crcHalf (crcEntry (2 * (128 / 2 ^ j))) = crcEntry (128 / 2 ^ j)) ∧ isPow (128 / 2 ^ j) = true ∧ 1 ≤ 128 / 2 ^ j ∧ (j ≠ 0 → 128 / 2 ^ j ≤ 64) ∧ 128 / 2 ^ j ≤ 128 ∧ 128 / 2 ^ (j + 1) = 128 / 2 ^ j / 2 ∧ crcEntry 128 = 3988292384 := by
  revert hj; revert j; decide +kernel
theorem pow_lt (p i : Nat) (_hp : p < 256) (hi : isPow i = true) (h : isPow p = true) : (i / 2 < p) = (i ≤ p) := by
  simp only [isPow, Bool.or_eq_true, beq_iff_eq] at hi h
  apply propext
  omega
theorem tabOne_step (i : Nat) (hi : isPow i = true) (p : Nat) (hp : p < 256) : (if p = i then crcEntry i else tabOne i p) = tabOne (i / 2) p := by
  unfold tabOne
  cases h : isPow p with
  | false =>
    have : p ≠ i := fun e => by rw [e, hi] at h; cases h
    simp [this]
  | true =>
    simp only [Bool.true_and, pow_lt p i hp hi h, decide_eq_true_eq]
    by_cases e : p = i
    · subst e; simp
    · rw [if_neg e]
      by_cases e2 : i < p
      · rw [if_pos e2, if_pos (by omega)]
      · rw [if_neg e2, if_neg (by omega)]
theorem tabV_congr {f g : Nat → Nat} (h : ∀ p, p < 256 → f p = g p) : tabV f = tabV g := by
  unfold tabV; congr 1; exact List.map_congr_left fun p hp => by rw [h p (List.mem_range.1 hp)]
theorem crcHalf_lt {c : Nat} (h : c < 4294967296) : crcHalf c < 4294967296 := by
  unfold crcHalf; split
  · exact Nat.xor_lt_two_pow (n := 32) (by omega) (by decide)
  · omega
theorem crcEntry_lt {b : Nat} (h : b < 4294967296) : crcEntry b < 4294967296 := by
  unfold crcEntry; repeat (refine crcHalf_lt ?_)
  exact h

/-- behind so many rounds of the second loop -/
def tabTwo (k p : Nat) : Nat := if p < k then crcEntry p else tabOne 0 p
def lowN (k : Nat) : Nat := k &&& (256 - k)
theorem low_bits (k : Nat) (h : k < 256) : bits BinOp.and IntKind.i64 (k : Int) (-(k : Int)) = ((lowN k : Nat) : Int) := by
  revert h; revert k; decide +kernel
theorem low_facts (k : Nat) (h : k < 256) : (lowN k = k → tabOne 0 k = crcEntry k) ∧ (lowN k ≠ k → lowN k < k ∧ 0 < lowN k ∧ crcEntry (lowN k) ^^^ crcEntry (k - lowN k) = crcEntry k) := by
  revert h; revert k; decide +kernel
theorem tabTwo_same {k : Nat} (h : tabOne 0 k = crcEntry k) (p : Nat) (_hp : p < 256) : tabTwo k p = tabTwo (k + 1) p := by
  unfold tabTwo
  by_cases e : p = k
  · subst e; simp [h]
  · by_cases e2 : p < k
    · rw [if_pos e2, if_pos (by omega)]
    · rw [if_neg e2, if_neg (by omega)]
theorem tabTwo_step (k p : Nat) (_hp : p < 256) : (if p = k then crcEntry k else tabTwo k p) = tabTwo (k + 1) p := by
  unfold tabTwo
  by_cases e : p = k
  · subst e; simp
  · rw [if_neg e]
    by_cases e2 : p < k
    · rw [if_pos e2, if_pos (by omega)]
    · rw [if_neg e2, if_neg (by omega)]
theorem infoTab : (Try.prog.info? 157).map (·.size) = some 256 := by kernel_rfl
theorem tabV_size (f : Nat → Nat) : (tabV f).size = 256 := by simp [tabV]
theorem crc_bits (c : Nat) (h : c < 4294967296) : bits BinOp.xor IntKind.u32 ((c : Int) / 2) ((c : Int) % 2 * 3988292384) = ((crcHalf c : Nat) : Int) := by
  have e1 : ((c : Int) / 2) = ((c / 2 : Nat) : Int) := by omega
  have e2 : ((c : Int) % 2 * 3988292384) = ((c % 2 * 3988292384 : Nat) : Int) := by omega
  rw [e1, e2, u32_xor_nat _ _ (by omega) (by omega)]
  unfold crcHalf
  rcases Nat.mod_two_eq_zero_or_one c with h2 | h2 <;> simp [h2]
theorem below_drewN {B : Nat} (w : World) (n : Nat) : Below B w (w.drewN n) := ⟨rfl, rfl, rfl, Nat.le_refl _, fun _ _ => rfl⟩
theorem BlockIs.drewN {w : World} {b : Nat} {cs : Array Value} {t : TypeId} (h : BlockIs w b cs t) (n : Nat) : BlockIs (w.drewN n) b cs t := h

set_option maxHeartbeats 400000 in
set_option maxRecDepth 100000 in
theorem table_any (w : World) :
    Calls Try.prog 97 #[] w fun e w' => e = .returned (.agg (tabV crcEntry)) ∧ Below w.heap.size w w' := by
  have hb1 := BlockIs.new (w.alloc (.cells Try.zeroCells157 157)) Try.zeroCells157 157
  have hb0 : BlockIs ((w.alloc (.cells Try.zeroCells157 157)).alloc (.cells Try.zeroCells157 157)) w.heap.size Try.zeroCells157 157 :=
    (BlockIs.new w Try.zeroCells157 157).keep (Below.heap_alloc _ _ _ (by simp))
  have hbw : Below w.heap.size w ((w.alloc (.cells Try.zeroCells157 157)).alloc (.cells Try.zeroCells157 157)) := ((Below.refl _ _).alloc (Nat.le_refl _) _).alloc (by simp) _
  simp only [World.size_alloc] at hb1
  have HB1 := Lib.hid hb1
  have HB0 := Lib.hid hb0
  have HBW := Lib.hid hbw
  clear hb1 hb0 hbw
  go_enter Try.func97, Try.ntmps97
  go_wp2
  generalize ((w.alloc (.cells Try.zeroCells157 157)).alloc (.cells Try.zeroCells157 157)) = w0 at HB1 HB0 HBW ⊢
  go_loopw [2] (fun i wr => ∃ j : Nat, j ≤ 8 ∧ i = .int .i64 ((128 / 2 ^ j : Nat) : Int) ∧ BlockIs wr (w.heap.size + 1) (tabV (tabOne (128 / 2 ^ j))) 157 ∧ BlockIs wr w.heap.size Try.zeroCells157 157 ∧ Below w.heap.size w wr) (fun i _ => (intOf i).toNat)
  case atStart => exact ⟨0, by omega, rfl, by have := HB1.out; rw [zeroTab] at this; exact this, HB0.out, HBW.out⟩
  case round =>
    obtain ⟨j, hj, rfl, hb1, hb0, hbw⟩ := hrel
    by_cases h8 : j = 8
    · subst h8
      have ht8 : BlockIs wr (w.heap.size + 1) (tabV (tabTwo 0)) 157 := by
        have : tabV (tabTwo 0) = tabV (tabOne (128 / 2 ^ 8)) := tabV_congr (fun p hp => by simp [tabTwo])
        rw [this]; exact hb1
      clear hb1
      go_wp2
      go_loopw [27] (fun i wr => ∃ k : Nat, k ≤ 256 ∧ i = .int .i64 k ∧ BlockIs wr (w.heap.size + 1) (tabV (tabTwo k)) 157 ∧ BlockIs wr w.heap.size Try.zeroCells157 157 ∧ Below w.heap.size w wr) (fun i _ => 256 - (intOf i).toNat)
      case atStart => exact ⟨0, by omega, rfl, ht8, hb0, hbw⟩
      case round =>
        clear ht8 hb0 hbw
        obtain ⟨k, hk, rfl, ht, hb0, hbw⟩ := hrel
        by_cases hlt : k < 256
        · have hlow := low_bits k hlt
          have hlf := low_facts k hlt
          have HL := Lib.hid hlow
          by_cases hk : lowN k = k
          · have hne : (bits BinOp.and IntKind.i64 (k : Int) (-(k : Int)) != (k : Int)) = false := by rw [hlow, hk]; simp
            have HK := Lib.hid ((low_facts k hlt).1 hk)
            clear hlow hlf hk
            go_wp2
            go_roundw
            case rel => exact ⟨k + 1, by omega, by go_num, by rw [tabV_congr (fun p hp => (tabTwo_same HK.out p hp).symm)]; exact ht, hb0, hbw⟩
            case measure => simp [intOf]; omega
          · have hne : (bits BinOp.and IntKind.i64 (k : Int) (-(k : Int)) != (k : Int)) = true := by rw [hlow]; simp; omega
            obtain ⟨l1, l2, l3⟩ := (low_facts k hlt).2 hk
            have HK := Lib.hid l3
            have cA : wr.cell? ⟨w.heap.size + 1, lowN k, none⟩ = some (.int .u32 (crcEntry (lowN k))) := by
              rw [ht.cell, tabV_get _ (by omega)]; unfold tabTwo; rw [if_pos l1]
            have cB : wr.cell? ⟨w.heap.size + 1, k - lowN k, none⟩ = some (.int .u32 (crcEntry (k - lowN k))) := by
              rw [ht.cell, tabV_get _ (by omega)]; unfold tabTwo; rw [if_pos (by omega)]
            have cC : wr.cell? ⟨w.heap.size + 1, k, none⟩ = some (.int .u32 (tabTwo k k)) := by
              rw [ht.cell, tabV_get _ (by omega)]
            have fC : wr.frozen? ⟨w.heap.size + 1, k, none⟩ = false := ht.free _
            have hlow2 : bits BinOp.and IntKind.i64 (k : Int) (-(k : Int)) = ((lowN k : Nat) : Int) := HL.out
            have hx : bits BinOp.xor IntKind.u32 (crcEntry (lowN k) : Int) (crcEntry (k - lowN k) : Int) = ((crcEntry k : Nat) : Int) := by
              rw [u32_xor_nat _ _ (crcEntry_lt (by omega)) (crcEntry_lt (by omega)), l3]
            have hne2 : (((lowN k : Nat) : Int) != (k : Int)) = true := by simp; omega
            have HT := Lib.hid ht
            clear hlf hlow hne l3 ht
            generalize lowN k = lo at *
            generalize crcEntry lo = vA at *
            generalize crcEntry (k - lo) = vB at *
            go_wp2
            go_region
            go_wp2
            go_roundw
            case rel =>
              refine ⟨k + 1, by omega, by go_num, ?_, ?_, ?_⟩
              · have h9 := HT.out.set k (.int .u32 ((crcEntry k : Nat) : Int))
                rw [tabV_set _ _ (by omega), tabV_congr (tabTwo_step k)] at h9
                exact h9
              · exact hb0.keep ((Touch.setc wr _ _ _).block _ hb0.lt (by omega))
              · exact (hbw.setCell (Nat.le_succ _) _).drew
            case measure => simp [intOf]; omega
        · obtain rfl : k = 256 := by omega
          go_wp2_with (first
            | (refine wpList_load_row rfl 157 _ rfl (w.heap.size + 1) rfl 157 _ _ _ ht Try.underlying157 rfl (by rw [tabV_size]; exact infoTab) ?_)
            | (refine wpList_store_row rfl 157 _ _ rfl w.heap.size _ rfl rfl 157 _ hb0 (by rw [tabV_size]; exact infoTab) ?_ ?_ ?_))
          · rw [zeroTab, tabV_size, tabV_size]
          · simp [tabV, Value.oneCell']
          · have hfin : tabV (tabTwo 256) = tabV crcEntry := tabV_congr (fun p hp => by unfold tabTwo; rw [if_pos hp])
            rw [hfin]
            refine bodyPost_ret (v := .agg (tabV crcEntry)) (results_cell_row (fn := Try.f97) (p := 0) (ty := 157) rfl _ _ w.heap.size 157 _ (0, 0) _ rfl (setRow_heap wr w.heap.size _ (tabV crcEntry) 157 (0, 0) hb0) Try.underlying157 rfl (by rw [tabV_size]; exact infoTab)) rfl ⟨rfl, ?_⟩
            exact hbw.trans ⟨rfl, rfl, rfl, by simp, fun i hi => setRow_other wr w.heap.size i _ (by omega)⟩
    · obtain ⟨t1, t2, t3, t4, t5, t6, t7, t8⟩ := tabOne_facts j (by omega)
      have tst := tabOne_step (128 / 2 ^ j) t3
      have HT := Lib.hid (And.intro t1 (And.intro t2 (And.intro t3 (And.intro t7 tst))))
      clear t1 t2 t3 t7 tst
      by_cases h0 : j = 0
      · subst h0
        have c2 : wr.cell? ⟨w.heap.size + 1, 128, none⟩ = some (.int .u32 (tabOne 128 128)) := by rw [hb1.cell, tabV_get _ (by decide)]
        have f1 : wr.frozen? ⟨w.heap.size + 1, 128, none⟩ = false := hb1.free _
        have e128 : ((128 / 2 ^ 0 : Nat) : Int) = 128 := rfl
        rw [e128]
        have HB := Lib.hid hb1
        have H8 := Lib.hid t8
        clear hb1 e128 t8
        go_wp2
        go_roundw
        case rel =>
          refine ⟨1, by omega, rfl, ?_, ?_, ?_⟩
          · have h9 := HB.out.set 128 (.int .u32 ((3988292384 : Nat) : Int))
            have h10 := HT.out.2.2.2.2
            rw [show (128 / 2 ^ 0 : Nat) = 128 from rfl, H8.out] at h10
            rw [show (128 / 2 ^ 0 : Nat) = 128 from rfl, tabV_set _ _ (by decide), tabV_congr h10] at h9
            exact h9
          · exact hb0.keep ((Touch.setc wr _ _ _).block _ hb0.lt (by omega))
          · exact hbw.setCell (by simp) _
        case measure => decide
      · have t5 := t5 h0
        generalize hi : 128 / 2 ^ j = i at hb1 HT t4 t5 t6 ⊢
        have c1 : wr.cell? ⟨w.heap.size + 1, 2 * i, none⟩ = some (.int .u32 (crcEntry (2 * i))) := by
          rw [hb1.cell, tabV_get _ (by omega), HT.out.1, if_neg h0]
        have hcl : crcEntry (2 * i) < 4294967296 := crcEntry_lt (by omega)
        have HB := Lib.hid hb1
        clear hb1 t8 hi
        generalize hce : crcEntry (2 * i) = c at c1 hcl HT
        clear hce
        have f1 : wr.frozen? ⟨w.heap.size + 1, i, none⟩ = false := HB.out.free _
        have c2 : wr.cell? ⟨w.heap.size + 1, i, none⟩ = some (.int .u32 (tabOne i i)) := by rw [HB.out.cell, tabV_get _ (by omega)]
        go_wp2
        go_quiet (fail)
        rw [crc_bits c hcl, HT.out.2.1 h0]
        go_wp2
        go_roundw
        case rel =>
          refine ⟨j + 1, by omega, by rw [HT.out.2.2.2.1]; simp, ?_, ?_, ?_⟩
          · have h9 := (HB.out.drewN nq).set i (.int .u32 ((crcEntry i : Nat) : Int))
            rw [tabV_set _ _ (by omega), tabV_congr (HT.out.2.2.2.2)] at h9
            rw [HT.out.2.2.2.1]
            exact h9
          · exact hb0.keep ((Touch.setc wr _ _ _).block _ hb0.lt (by omega))
          · exact (hbw.trans (below_drewN wr nq)).setCell (Nat.le_succ _) _
        case measure => simp [intOf]; omega
end Go.Proofs.Ytjdkhainlcalbaa
