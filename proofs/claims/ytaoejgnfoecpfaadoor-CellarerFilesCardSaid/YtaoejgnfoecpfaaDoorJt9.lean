/- Numbers in groups of seven bits: the plain law. Bytes and texts as lists; a text behind its length: the plain law. Numbers in groups of seven bits: walked. Small facts on rows and texts (a stand-in for the texts on digits). Blocks known whole; rows of texts. The order of items, as a sort calls it. The library's iterator over a row of items, for any body of a loop. -/
import Derived.Test.YtaoejgnfoecpfaaDoorJt2
import Derived.Lib.Split
import Derived.Test.YtaoejgnfoecpfaaDoorJt5
import Derived.Lib.OthersKept
import Derived.WalkSmall
import Derived.Deep.Draws
import Derived.Laws.Rows
import Derived.Maps.AppendAt
import Derived.Laws.AppendOwnNone
import Derived.Deep.RegionWith
import Derived.Test.YtaoejgnfoecpfaaDoorJt1
import Derived.Test.YtaoejgnfoecpfaaDoorJt8
import Derived.Test.YtaoejgnfoecpfaaDoorJt6
import Derived.Shelf.SlSortCmp.InsertionK
namespace Go.Proofs.YtaoejgnfoecpfaaDoor
set_option linter.unusedVariables false
set_option linter.unusedSimpArgs false
set_option linter.unusedSectionVars false
open Go.RowKit

/-- a number in groups of seven bits, the lowest first -/
def varF : Nat → Nat → List UInt8
  | 0, x => [UInt8.ofNat (x % 128)]
  | f + 1, x => if x < 128 then [UInt8.ofNat x] else UInt8.ofNat (x % 128 + 128) :: varF f (x / 128)
def varL (x : Nat) : List UInt8 := varF 10 x
theorem varF_len : ∀ f x, 1 ≤ (varF f x).length ∧ (varF f x).length ≤ f + 1
  | 0, x => by simp [varF]
  | f + 1, x => by
    have := varF_len f (x / 128)
    simp only [varF]
    split <;> simp <;> omega
theorem pow128 (f : Nat) : 128 ^ (f + 1) = 128 * 128 ^ f := by rw [Nat.pow_succ, Nat.mul_comm]
theorem varF_fuel : ∀ f g x, x < 128 ^ (f + 1) → x < 128 ^ (g + 1) → varF f x = varF g x
  | 0, 0, x, _, _ => rfl
  | 0, g + 1, x, h, _ => by
    have h1 : x < 128 := by simpa using h
    simp only [varF]
    rw [if_pos h1, Nat.mod_eq_of_lt h1]
  | f + 1, 0, x, _, h => by
    have h1 : x < 128 := by simpa using h
    simp only [varF]
    rw [if_pos h1, Nat.mod_eq_of_lt h1]
  | f + 1, g + 1, x, h1, h2 => by
    simp only [varF]
    split
    · rfl
    · rw [varF_fuel f g (x / 128)]
      · rw [Nat.div_lt_iff_lt_mul (by decide), Nat.mul_comm, ← pow128]; exact h1
      · rw [Nat.div_lt_iff_lt_mul (by decide), Nat.mul_comm, ← pow128]; exact h2
theorem varF_small {f x : Nat} (h : x < 128) : varF f x = [UInt8.ofNat x] := by
  cases f with
  | zero => simp only [varF]; rw [Nat.mod_eq_of_lt h]
  | succ f => simp only [varF]; rw [if_pos h]
theorem varF_great {f x : Nat} (h : ¬ x < 128) : varF (f + 1) x = UInt8.ofNat (x % 128 + 128) :: varF f (x / 128) := by
  simp only [varF]; rw [if_neg h]

/-- the number at the front -/
def unv : Nat → Nat → Nat → List UInt8 → Nat × Nat
  | 0, _, _, _ => (0, 0)
  | _ + 1, _, _, [] => (0, 0)
  | f + 1, i, a, c :: r => if (i = 9 ∧ 1 < c.toNat) ∨ (0 < i ∧ c.toNat = 0) then (0, 0) else if c.toNat < 128 then (a + c.toNat * 128 ^ i, i + 1) else unv f (i + 1) (a + c.toNat % 128 * 128 ^ i) r
def unvarL (l : List UInt8) : Nat × Nat := unv 10 0 0 l

theorem u8_small {x : Nat} (h : x < 256) : (UInt8.ofNat x).toNat = x := by
  simp only [UInt8.toNat_ofNat']
  exact Nat.mod_eq_of_lt h
/-- 2 ^ (64 - 7 * i) -/
def room : Nat → Nat
  | 0 => 18446744073709551616
  | i + 1 => room i / 128
theorem room9 : room 9 = 2 := by decide
theorem room_le : ∀ i, i ≤ 9 → 128 ^ i * room i ≤ 18446744073709551616 := by decide
theorem room_pos : ∀ i, i ≤ 9 → 1 ≤ room i := by decide
theorem room_succ : ∀ i, i < 9 → room i = 128 * room (i + 1) := by decide
theorem mul_step (y i : Nat) : y % 128 * 128 ^ i + y / 128 * 128 ^ (i + 1) = y * 128 ^ i := by
  have h := Nat.div_add_mod y 128
  rw [pow128]
  have e : y / 128 * (128 * 128 ^ i) = 128 * (y / 128) * 128 ^ i := by
    rw [← Nat.mul_assoc, Nat.mul_comm (y / 128) 128]
  rw [e, ← Nat.add_mul, Nat.add_comm, h]
theorem room_div {i y : Nat} (hi : i < 9) (h : y < room i) : y / 128 < room (i + 1) := by
  have := room_succ i hi
  omega
/-- what was written is read -/
theorem unv_var : ∀ (f i a y : Nat) (r : List UInt8), i + f = 9 → y < room i → (0 < i → y ≠ 0) → unv (f + 1) i a (varF f y ++ r) = (a + y * 128 ^ i, i + (varF f y).length)
  | 0, i, a, y, r, hi, hy, h0 => by
    obtain rfl : i = 9 := by omega
    have hy2 : y < 2 := by rw [room9] at hy; exact hy
    have hc := u8_small (x := y) (by omega)
    rw [varF_small (by omega)]
    simp only [List.cons_append, List.nil_append, unv]
    rw [hc, if_neg (by omega), if_pos (by omega)]
    rfl
  | f + 1, i, a, y, r, hi, hy, h0 => by
    by_cases h : y < 128
    · have hc := u8_small (x := y) (by omega)
      rw [varF_small h]
      simp only [List.cons_append, List.nil_append, unv]
      rw [hc, if_neg (by omega), if_pos h]
      rfl
    · have hc := u8_small (x := y % 128 + 128) (by omega)
      rw [varF_great h]
      simp only [List.cons_append]
      rw [unv, hc, if_neg (by omega), if_neg (by omega)]
      rw [unv_var f (i + 1) _ (y / 128) r (by omega) (room_div (by omega) hy) (by omega)]
      have := mul_step y i
      rw [show (y % 128 + 128) % 128 = y % 128 by omega, Nat.add_assoc, this, List.length_cons]
      congr 1
      omega
theorem room10 : (18446744073709551616 : Nat) < 128 ^ 10 := by decide
theorem varL_9 {x : Nat} (h : x < 18446744073709551616) : varL x = varF 9 x := varF_fuel 10 9 x (Nat.lt_trans h (by decide)) (Nat.lt_trans h room10)
theorem unvar_var (x : Nat) (r : List UInt8) (h : x < 18446744073709551616) : unvarL (varL x ++ r) = (x, (varL x).length) := by
  have := unv_var 9 0 0 x r rfl h (by omega)
  rw [varL_9 h]
  unfold unvarL
  rw [this]
  simp
/-- what was read was written so -/
theorem unv_back : ∀ (f i a : Nat) (l : List UInt8) (x n : Nat), i + f = 9 → unv (f + 1) i a l = (x, n) → n ≠ 0 → ∃ y, x = a + y * 128 ^ i ∧ y < room i ∧ n = i + (varF f y).length ∧ ∃ r, l = varF f y ++ r
  | f, i, a, [], x, n, _, h, hn => by
    simp only [unv, Prod.mk.injEq] at h
    exact absurd h.2.symm hn
  | f, i, a, c :: r, x, n, hi, h, hn => by
    simp only [unv] at h
    split at h
    · simp only [Prod.mk.injEq] at h; exact absurd h.2.symm hn
    · next g =>
      have hc2 : UInt8.ofNat c.toNat = c := by simp
      split at h
      · next hc =>
        simp only [Prod.mk.injEq] at h
        refine ⟨c.toNat, h.1.symm, ?_, by rw [varF_small hc]; exact h.2.symm, r, by rw [varF_small hc, hc2]; rfl⟩
        by_cases h9 : i = 9
        · subst h9; rw [room9]; omega
        · have := room_succ i (by omega)
          have := room_pos (i + 1) (by omega)
          omega
      · next hc =>
        cases f with
        | zero =>
          have h9 : i = 9 := by omega
          exact absurd (Or.inl ⟨h9, by omega⟩) g
        | succ f =>
          obtain ⟨y, e1, e2, e3, t, e4⟩ := unv_back f (i + 1) _ r x n (by omega) h hn
          have hlt := c.toNat_lt
          have hr := room_succ i (by omega)
          have hy0 : y ≠ 0 := by
            intro e
            subst e
            rw [varF_small (by decide)] at e4 e3
            subst e4
            -- the group behind would be a nought
            cases f with
            | zero => simp [unv] at h; exact hn h.2.symm
            | succ f => simp [unv] at h; exact hn h.2.symm
          have hd : (c.toNat % 128 + 128 * y) / 128 = y := by omega
          have hm : (c.toNat % 128 + 128 * y) % 128 = c.toNat % 128 := by omega
          refine ⟨c.toNat % 128 + 128 * y, ?_, by omega, ?_, t, ?_⟩
          · have := mul_step (c.toNat % 128 + 128 * y) i
            rw [hd, hm] at this
            rw [e1, ← this, Nat.add_assoc]
          · rw [varF_great (by omega), hd, List.length_cons, e3]; omega
          · rw [varF_great (by omega), hd, hm, e4, show c.toNat % 128 + 128 = c.toNat by omega, hc2]; rfl
theorem unvar_back {l : List UInt8} {x n : Nat} (h : unvarL l = (x, n)) (hn : n ≠ 0) : x < 18446744073709551616 ∧ n = (varL x).length ∧ l.take n = varL x ∧ n ≤ l.length ∧ n ≤ 10 := by
  obtain ⟨y, e1, e2, e3, r, e4⟩ := unv_back 9 0 0 l x n rfl h hn
  obtain rfl : x = y := by omega
  have hv := varL_9 (x := x) e2
  rw [← hv] at e3 e4
  have := varF_len 9 x
  rw [← hv] at this
  refine ⟨e2, by omega, ?_, by rw [e4]; simp; omega, by omega⟩
  rw [e4, e3, Nat.zero_add, List.take_left]
theorem unvar_le (l : List UInt8) : (unvarL l).2 ≤ l.length ∧ (unvarL l).2 ≤ 10 ∧ (unvarL l).1 < 18446744073709551616 := by
  by_cases h : (unvarL l).2 = 0
  · refine ⟨by omega, by omega, ?_⟩
    have key : ∀ f i a (l : List UInt8), (unv f i a l).2 = 0 → (unv f i a l).1 = 0 := by
      intro f
      induction f with
      | zero => intro i a l _; rfl
      | succ f ih =>
        intro i a l h
        cases l with
        | nil => rfl
        | cons c r =>
          simp only [unv] at h ⊢
          split
          · rfl
          · next g =>
            rw [if_neg g] at h
            split
            · next hc => rw [if_pos hc] at h; simp at h
            · next hc => rw [if_neg hc] at h; exact ih _ _ _ h
    have e : (unvarL l).1 = 0 := key _ _ _ _ h
    rw [e]; decide
  · have := unvar_back (l := l) rfl h
    exact ⟨this.2.2.2.1, this.2.2.2.2, this.1⟩

/-- the sum of groups -/
def sumV : List UInt8 → Nat
  | [] => 0
  | c :: r => c.toNat % 128 + 128 * sumV r
theorem sumV_snoc (l : List UInt8) (c : UInt8) : sumV (l ++ [c]) = sumV l + c.toNat % 128 * 128 ^ l.length := by
  induction l with
  | nil => simp [sumV]
  | cons d r ih =>
    simp only [List.cons_append, sumV, List.length_cons]
    rw [ih, Nat.mul_add, pow128, Nat.add_assoc]
    congr 2
    rw [← Nat.mul_assoc, ← Nat.mul_assoc, Nat.mul_comm 128]
theorem sumV_var : ∀ f x, x < 128 ^ (f + 1) → sumV (varF f x) = x
  | 0, x, h => by
    have h1 : x < 128 := by simpa using h
    have := u8_small (x := x) (by omega)
    rw [varF_small h1]
    simp only [sumV]
    omega
  | f + 1, x, h => by
    by_cases h1 : x < 128
    · have := u8_small (x := x) (by omega)
      rw [varF_small h1]
      simp only [sumV]
      omega
    · have := u8_small (x := x % 128 + 128) (by omega)
      rw [varF_great h1]
      simp only [sumV]
      rw [sumV_var f (x / 128) (by rw [Nat.div_lt_iff_lt_mul (by decide), Nat.mul_comm, ← pow128]; exact h)]
      omega
/-- the document's test at a length -/
theorem try_hit {l : List UInt8} {n y : Nat} (hy : y < 18446744073709551616) (h : varL y = l.take n) (hn : n ≤ l.length) : unvarL l = (y, n) := by
  have e : l = varL y ++ l.drop n := by rw [h, List.take_append_drop]
  have := unvar_var y (l.drop n) hy
  rw [← e, h] at this
  rw [this]
  simp
  omega
theorem try_miss {l : List UInt8} {n : Nat} (h : varL (sumV (l.take n) % 18446744073709551616) ≠ l.take n) (hn : n ≠ 0) : (unvarL l).2 ≠ n := by
  intro e
  obtain ⟨h1, h2, h3, _⟩ := unvar_back (l := l) (x := (unvarL l).1) (n := n) (by rw [← e]) hn
  have hs : sumV (l.take n) = (unvarL l).1 := by
    rw [h3, varL_9 h1]
    exact sumV_var 9 _ (Nat.lt_trans h1 room10)
  rw [hs, Nat.mod_eq_of_lt h1, h3] at h
  exact h rfl
end Go.Proofs.YtaoejgnfoecpfaaDoor
namespace Go.Proofs.YtaoejgnfoecpfaaDoor
set_option linter.unusedVariables false
set_option linter.unusedSimpArgs false
set_option linter.unusedSectionVars false
open Go.RowKit

def bs (l : List UInt8) : ByteArray := ⟨l.toArray⟩
theorem bs_list (l : List UInt8) : (bs l).data.toList = l := by simp [bs]
theorem bs_size (l : List UInt8) : (bs l).size = l.length := rfl
theorem bs_self (s : ByteArray) : bs s.data.toList = s := by
  apply ByteArray.ext
  simp [bs]
theorem bs_inj {a b : List UInt8} (h : bs a = bs b) : a = b := by
  have := congrArg (fun x : ByteArray => x.data.toList) h
  simpa [bs] using this
theorem bs_app (a b : List UInt8) : bs a ++ bs b = bs (a ++ b) := by
  apply ByteArray.ext
  apply Array.toList_inj.1
  simp [bs]
theorem bs_appS (a : List UInt8) (s : ByteArray) : bs a ++ s = bs (a ++ s.data.toList) := by
  rw [← bs_app, bs_self]
theorem ba_inj {a b : ByteArray} (h : a.data.toList = b.data.toList) : a = b := ByteArray.ext (Array.toList_inj.1 h)
theorem ba_len (s : ByteArray) : s.data.toList.length = s.size := by simp
theorem ext_drop (s : ByteArray) (n : Nat) : (s.extract n s.size).data.toList = s.data.toList.drop n := Lib.extract_to_end s n
theorem ext_take (s : ByteArray) (n : Nat) : (s.extract 0 n).data.toList = s.data.toList.take n := Lib.extract_from_zero s n
theorem bs_drop (l : List UInt8) (n : Nat) : (bs l).extract n (bs l).size = bs (l.drop n) := ba_inj (by rw [ext_drop, bs_list, bs_list])
theorem bs_take (l : List UInt8) (n : Nat) : (bs l).extract 0 n = bs (l.take n) := ba_inj (by rw [ext_take, bs_list, bs_list])
/-- a text behind its length -/
def textL (s : ByteArray) : List UInt8 := varL s.size ++ s.data.toList
/-- what a reader's 'take' gives -/
def takS (s : ByteArray) (b : Bool) (n : Nat) : ByteArray × ByteArray × Bool := if s.size < n then (⟨#[]⟩, s, true) else (s.extract 0 n, s.extract n s.size, b)
theorem takS_bad (s : ByteArray) (n : Nat) : (takS s true n).2.2 = true := by unfold takS; split <;> rfl
theorem takS_le (s : ByteArray) (b : Bool) (n : Nat) : (takS s b n).1.size ≤ s.size ∧ (takS s b n).2.1.size ≤ s.size := by
  unfold takS
  split
  · exact ⟨Nat.zero_le _, Nat.le_refl _⟩
  · exact ⟨by simp only [ByteArray.size_extract]; omega, by simp only [ByteArray.size_extract]; omega⟩
theorem takS_app (t r : List UInt8) (b : Bool) : takS (bs (t ++ r)) b t.length = (bs t, bs r, b) := by
  unfold takS
  rw [if_neg (by rw [bs_size, List.length_append]; omega), bs_take, bs_drop, List.take_left, List.drop_left]
theorem takS_back {s t r : ByteArray} {b : Bool} {n : Nat} (h : takS s b n = (t, r, false)) : b = false ∧ s.data.toList = t.data.toList ++ r.data.toList ∧ t.size = n := by
  unfold takS at h
  split at h
  · simp at h
  · simp only [Prod.mk.injEq] at h
    obtain ⟨rfl, rfl, rfl⟩ := h
    refine ⟨rfl, ?_, ?_⟩
    · rw [ext_drop, ext_take, List.take_append_drop]
    · simp only [ByteArray.size_extract]; omega
end Go.Proofs.YtaoejgnfoecpfaaDoor
namespace Go.Proofs.YtaoejgnfoecpfaaDoor
set_option linter.unusedVariables false
set_option linter.unusedSimpArgs false
set_option linter.unusedSectionVars false
open Go.RowKit

theorem infoB : (Tryd.prog.info? 5).map (fun i => (i.zero, i.size, i.bytes)) = some (some (.int .u8 0), 1, 1) := by kernel_rfl
theorem or128 : ∀ n : Nat, n < 256 → bits BinOp.or IntKind.u8 (n : Int) 128 = ((n % 128 + 128 : Nat) : Int) := by decide +kernel
set_option maxRecDepth 100000 in
set_option maxHeartbeats 800000 in
theorem var_any (x : Nat) (w : World) (hx : x < 18446744073709551616) :
    Calls Tryd.prog 98 #[.int .u64 x] w fun e w' => e = .returned (.string ⟨(varL x).toArray⟩) ∧ Below w.heap.size w w' := by
  have h0 : x < 128 ^ (10 + 1) := Nat.lt_trans hx (by decide)
  have HX := Lib.hid hx
  clear hx
  go_enter Tryd.func98, Tryd.ntmps98
  go_wp2
  go_loopw [0, 3] (fun y v wr => ∃ (z f : Nat) (l : List UInt8) (vv : Value), vv = v ∧ y = .int .u64 (z : Nat) ∧ z ≤ x ∧ wr.ownsRow w.heap.size 5 1 v l.length (bytesV l) ∧ Below w.heap.size w wr ∧ l ++ varF f z = varL x ∧ l.length + f ≤ 10 ∧ z < 128 ^ (f + 1)) (fun y _ _ => (intOf y).toNat)
  case atStart => exact ⟨x, 10, [], _, rfl, rfl, Nat.le_refl _, ⟨rfl, Or.inl ⟨rfl, rfl⟩⟩, Below.refl _ _, rfl, by simp, h0⟩
  case round =>
    obtain ⟨z, f, l, v, rfl, rfl, hzx, hown, hb, hn, hlf, hz⟩ := hrel
    have HN := Lib.hid hn
    have HZ := Lib.hid hz
    have HZLE := Lib.hid hzx
    have HZX := Lib.hid (Nat.lt_of_le_of_lt hzx HX.out)
    have hsz := hb.size
    have hll : l.length ≤ 10 := by omega
    clear hn hz hzx
    by_cases h : z < 128
    · have h1 : ¬ (128 : Int) ≤ (z : Int) := by omega
      have hw8 : IntKind.u8.wrap (z : Int) = (z : Int) := IntWalk.u8_in _ (by omega)
      have hz8 := u8_small (x := z) (by omega)
      have HB1 := Lib.hid (show bytesV (l ++ [UInt8.ofNat z]) = bytesV l ++ [.int .u8 (z : Int)] by rw [bytesV_app]; simp only [bytesV, List.map_cons, List.map_nil]; rw [hz8])
      have HV := Lib.hid (show l ++ [UInt8.ofNat z] = varL x by rw [← varF_small (f := f) h]; exact HN.out)
      clear h hz8
      go_wp2_with (at_builtin; refine wpList_app1 rfl _ _ 46 rfl w.heap.size 5 Tryd.underlying46 infoB rfl (by decide) _ _ _ rfl hown _ rfl rfl (oneCell_int _ _) ?_ ?_ ?_ ?_; omega; omega; omega; intro g1 cap1 w5 hown' hgr hbw _; have hcv := run_convert_own (l := l ++ [UInt8.ofNat z]) 46 9 5 Tryd.underlying46 Tryd.underlying5 Tryd.underlying9 (by rw [HB1.out]; exact hown'))
      go_ret
      exact ⟨ret_str (by rw [HV.out]), hb.trans hbw⟩
    · have h1 : (128 : Int) ≤ (z : Int) := by omega
      obtain ⟨f, rfl⟩ : ∃ g, f = g + 1 := by
        cases f with
        | zero => have := HZ.out; simp at this; omega
        | succ g => exact ⟨g, rfl⟩
      have hw8 : IntKind.u8.wrap (z : Int) = (z : Int) % 256 := by rw [IntKind.wrap_u8]
      have hor : bits BinOp.or IntKind.u8 ((z : Int) % 256) 128 = (z : Int) % 128 + 128 := by
        have := or128 (z % 256) (by omega)
        rw [show ((z % 256 : Nat) : Int) = (z : Int) % 256 by omega] at this
        omega
      have hz8 := u8_small (x := z % 128 + 128) (by omega)
      have HB1 := Lib.hid (show bytesV (l ++ [UInt8.ofNat (z % 128 + 128)]) = bytesV l ++ [.int .u8 ((z : Int) % 128 + 128)] by rw [bytesV_app]; simp only [bytesV, List.map_cons, List.map_nil]; rw [hz8, show ((z % 128 + 128 : Nat) : Int) = (z : Int) % 128 + 128 by omega])
      have HV := Lib.hid (show (l ++ [UInt8.ofNat (z % 128 + 128)]) ++ varF f (z / 128) = varL x by rw [← HN.out, varF_great h, List.append_assoc]; rfl)
      clear h hz8
      go_wp2_with (at_builtin; refine wpList_app1 rfl _ _ 46 rfl w.heap.size 5 Tryd.underlying46 infoB rfl (by decide) _ _ _ rfl hown _ rfl rfl (oneCell_int _ _) ?_ ?_ ?_ ?_; omega; omega; omega; intro g1 cap1 w5 hown' hgr hbw _)
      go_roundw
      case rel =>
        refine ⟨z / 128, f, l ++ [UInt8.ofNat (z % 128 + 128)], _, rfl, ?_, ?_, ?_, hb.trans hbw, HV.out, ?_, ?_⟩
        · rw [show ((z / 128 : Nat) : Int) = (z : Int) / 128 by omega]
        · exact Nat.le_trans (Nat.div_le_self _ _) HZLE.out
        · rw [HB1.out]; simpa using hown'
        · simp; omega
        · rw [Nat.div_lt_iff_lt_mul (by decide), Nat.mul_comm, ← pow128]; exact HZ.out
      case measure => simp [intOf]; omega

theorem ret_2 {k1 k2 : IntKind} {a b c d : Int} (h1 : a = c) (h2 : b = d) : Ending.returned (.tuple #[.int k1 a, .int k2 b]) = .returned (.tuple #[.int k1 c, .int k2 d]) := by rw [h1, h2]
theorem acc_or (y c k : Nat) (hy : y < 128 ^ k) (hc : c < 256) (hk : k ≤ 9) (h9 : k = 9 → c ≤ 1) : bits BinOp.or IntKind.u64 (y : Int) (IntKind.u64.wrap (bits BinOp.and IntKind.u64 (c : Int) 127 * 2 ^ (7 * k))) = ((y + c % 128 * 128 ^ k : Nat) : Int) := by
  have e1 : bits BinOp.and IntKind.u64 (c : Int) 127 = ((c % 128 : Nat) : Int) := by
    have := bits_and_u64_nat c 127 (by omega) (by decide)
    rw [show ((127 : Nat) : Int) = 127 from rfl] at this
    rw [this, show (127 : Nat) = 2 ^ 7 - 1 from rfl, Nat.and_two_pow_sub_one_eq_mod]
  have e2 : (2 : Nat) ^ (7 * k) = 128 ^ k := by rw [Nat.pow_mul]
  have e3 : ((c % 128 : Nat) : Int) * 2 ^ (7 * k) = ((c % 128 * 128 ^ k : Nat) : Int) := by
    rw [← e2]; simp
  have hp : 128 ^ k ≤ 128 ^ 9 := Nat.pow_le_pow_right (by decide) hk
  have hlt : c % 128 * 128 ^ k < 18446744073709551616 := by
    by_cases h : k = 9
    · have := h9 h
      have : c % 128 * 128 ^ k ≤ 1 * 128 ^ 9 := Nat.mul_le_mul (by omega) hp
      exact Nat.lt_of_le_of_lt this (by decide)
    · have h8 : 128 ^ k ≤ 128 ^ 8 := Nat.pow_le_pow_right (by decide) (by omega)
      have : c % 128 * 128 ^ k ≤ 127 * 128 ^ 8 := Nat.mul_le_mul (by omega) h8
      exact Nat.lt_of_le_of_lt this (by decide)
  have hy2 : y < 18446744073709551616 := Nat.lt_trans (Nat.lt_of_lt_of_le hy hp) (by decide)
  rw [e1, e3, IntKind.wrap_u64, Int.emod_eq_of_lt (by omega) (by omega), bits_or_u64_nat _ _ hy2 hlt]
  congr 1
  have := Nat.two_pow_add_eq_or_of_lt (i := 7 * k) (b := y) (by rw [e2]; exact hy) (c % 128)
  rw [e2, Nat.mul_comm] at this
  rw [Nat.or_comm, ← this, Nat.add_comm]
theorem acc_lt (y c k : Nat) (hy : y < 128 ^ k) : y + c % 128 * 128 ^ k < 128 ^ (k + 1) := by
  have : c % 128 * 128 ^ k ≤ 127 * 128 ^ k := Nat.mul_le_mul_right _ (by omega)
  rw [pow128]
  omega

set_option maxRecDepth 100000 in
set_option maxHeartbeats 1600000 in
theorem unvar_any (s : ByteArray) (w : World) (_hs : s.size ≤ 1099511627776) :
    Calls Tryd.prog 99 #[.string s] w fun e w' => e = .returned (.tuple #[.int .u64 (unvarL s.data.toList).1, .int .i64 (unvarL s.data.toList).2]) ∧ w = w' := by
  go_enter Tryd.func99, Tryd.ntmps99
  go_wp2
  go_loop [4, 5] (fun a i => ∃ (k f y : Nat), a = .int .u64 (y : Nat) ∧ i = .int .i64 (k : Nat) ∧ k + f = 10 ∧ k ≤ s.size ∧ y < 128 ^ k ∧ unv f k y (s.data.toList.drop k) = unvarL s.data.toList) (fun _ i => 10 - (intOf i).toNat)
  case atStart => exact ⟨0, 10, 0, rfl, rfl, rfl, Nat.zero_le _, by decide, by rw [List.drop_zero]; rfl⟩
  case round =>
    obtain ⟨k, f, y, rfl, rfl, hkf, hk, hy, hn⟩ := hrel
    have HN := Lib.hid hn
    have HY := Lib.hid hy
    clear hn hy
    by_cases hlt : k < s.size
    · by_cases h10 : k < 10
      · obtain ⟨f, rfl⟩ : ∃ g, f = g + 1 := ⟨f - 1, by omega⟩
        have HDR := Lib.hid (show s.data.toList.drop k = s[k] :: s.data.toList.drop (k + 1) from List.drop_eq_getElem_cons (by simpa using hlt))
        have hc := s[k].toNat_lt
        have HU := Lib.hid (show unv (f + 1) k y (s[k] :: s.data.toList.drop (k + 1)) = if (k = 9 ∧ 1 < s[k].toNat) ∨ (0 < k ∧ s[k].toNat = 0) then (0, 0) else if s[k].toNat < 128 then (y + s[k].toNat * 128 ^ k, k + 1) else unv f (k + 1) (y + s[k].toNat % 128 * 128 ^ k) (s.data.toList.drop (k + 1)) from rfl)
        have hl0 : (0 : Int) ≤ (k : Int) := by omega
        have hl1 : (k : Int) < (s.size : Int) := by omega
        by_cases hA : k = 9 ∧ 1 < s[k].toNat
        · have HF := Lib.hid (show unvarL s.data.toList = (0, 0) by rw [← HN.out, HDR.out, HU.out, if_pos (Or.inl hA)])
          have q1 : ((k : Int) == 9) = true := by simp; omega
          have q2 : (1 : Int) < (s[k].toNat : Int) := by omega
          clear hA
          go_wp2
          go_ret2
          exact ⟨by rw [HF.out]; rfl, rfl⟩
        · by_cases hB : 0 < k ∧ s[k].toNat = 0
          · have HF := Lib.hid (show unvarL s.data.toList = (0, 0) by rw [← HN.out, HDR.out, HU.out, if_pos (Or.inr hB)])
            have q3 : (0 : Int) < (k : Int) := by omega
            have q4 : ((s[k].toNat : Int) == 0) = true := by simp; omega
            have q2 : ¬ (1 : Int) < (s[k].toNat : Int) := by omega
            have q2' : decide ((1 : Int) < (s[k].toNat : Int)) = false := decide_eq_false q2
            clear hA hB
            cases q1 : ((k : Int) == 9)
            all_goals
              go_wp2
              go_ret2
              exact ⟨by rw [HF.out]; rfl, rfl⟩
          · have HACC := Lib.hid (fun (h9 : k ≤ 9) (h1 : k = 9 → s[k].toNat ≤ 1) => acc_or y s[k].toNat k HY.out hc h9 h1)
            by_cases h128 : s[k].toNat < 128
            · have HF := Lib.hid (show unvarL s.data.toList = (y + s[k].toNat * 128 ^ k, k + 1) by rw [← HN.out, HDR.out, HU.out, if_neg (by omega), if_pos h128])
              have HM := Lib.hid (show s[k].toNat % 128 = s[k].toNat from Nat.mod_eq_of_lt h128)
              have q5 : (s[k].toNat : Int) < 128 := by omega
              have HB' := Lib.hid hB
              have HA' := Lib.hid hA
              clear hA hB
              rcases (by omega : k = 0 ∨ (0 < k ∧ k < 9) ∨ k = 9) with g | ⟨g1, g2⟩ | g
              · have HG := Lib.hid g
                have q3 : ¬ (0 : Int) < (k : Int) := by omega
                have q1 : ((k : Int) == 9) = false := by simp; omega
                have q3' : decide ((0 : Int) < (k : Int)) = false := decide_eq_false q3
                clear g
                go_wp2
                go_ret2
                exact ⟨ret_2 (by rw [HF.out]; have := HACC.out (by have := HG.out; omega) (by have := HG.out; omega); rw [HM.out] at this; have h0 := HG.out; subst h0; simpa using this) (by rw [HF.out]; simp), rfl⟩
              · have q1 : ((k : Int) == 9) = false := by simp; omega
                have q3 : (0 : Int) < (k : Int) := by omega
                have q4 : ((s[k].toNat : Int) == 0) = false := by have := HB'.out; simp; omega
                go_wp2
                go_ret2
                exact ⟨ret_2 (by rw [HF.out]; have := HACC.out (by omega) (by omega); rw [HM.out] at this; exact this) (by rw [HF.out]; simp), rfl⟩
              · have HG := Lib.hid g
                have q1 : ((k : Int) == 9) = true := by simp; omega
                have q3 : (0 : Int) < (k : Int) := by omega
                have q2 : decide ((1 : Int) < (s[k].toNat : Int)) = false := decide_eq_false (by have := HA'.out; omega)
                have q4 : ((s[k].toNat : Int) == 0) = false := by have := HB'.out; simp; omega
                clear g
                go_wp2
                go_ret2
                exact ⟨ret_2 (by rw [HF.out]; have := HACC.out (by have := HG.out; omega) (by have := HA'.out; have := HG.out; omega); rw [HM.out] at this; have h0 := HG.out; subst h0; simpa using this) (by rw [HF.out]; simp), rfl⟩
            · have h9 : k < 9 := by omega
              have HF := Lib.hid (show unv f (k + 1) (y + s[k].toNat % 128 * 128 ^ k) (s.data.toList.drop (k + 1)) = unvarL s.data.toList by rw [← HN.out, HDR.out, HU.out, if_neg (by omega), if_neg h128])
              have HL := Lib.hid (acc_lt y s[k].toNat k HY.out)
              have HAC := Lib.hid (HACC.out (by omega) (by omega))
              have q1 : ((k : Int) == 9) = false := by simp; omega
              have q4 : ((s[k].toNat : Int) == 0) = false := by simp; omega
              have q5 : ¬ (s[k].toNat : Int) < 128 := by omega
              clear hA hB HACC
              go_wp2
              all_goals
                go_round
                case rel => exact ⟨k + 1, f, _, by rw [HAC.out], by go_num, by omega, by omega, HL.out, HF.out⟩
                case measure => simp [intOf]; omega
      · have HF := Lib.hid (show unvarL s.data.toList = (0, 0) by rw [← HN.out, show f = 0 by omega]; rfl)
        go_wp2
        go_ret2
        exact ⟨ret_2 (by rw [HF.out]; rfl) (by rw [HF.out]; rfl), rfl⟩
    · have HF := Lib.hid (show unvarL s.data.toList = (0, 0) by
        rw [← HN.out, List.drop_of_length_le (by simp; omega)]
        cases f <;> rfl)
      go_wp2
      go_ret2
      exact ⟨ret_2 (by rw [HF.out]; rfl) (by rw [HF.out]; rfl), rfl⟩
end Go.Proofs.YtaoejgnfoecpfaaDoor
namespace Go.Proofs.YtaoejgnfoecpfaaDoor
set_option linter.unusedVariables false
set_option linter.unusedSimpArgs false
set_option linter.unusedSectionVars false
open Go.RowKit

theorem ownsRow_below {B : Nat} {e : TypeId} {k : Nat} {v : Value} {n : Nat} {xs : List Value} {w w' : World} (h : w.ownsRow B e k v n xs) (hb : Below w.heap.size w w') : w'.ownsRow B e k v n xs :=
  h.kept (row := none) ⟨hb.os, hb.tape, hb.output, hb.size, fun j hj _ => hb.block j hj⟩ (by cases hv : v.ownBlock <;> simp)
theorem infoS : (Tryd.prog.info? 9).map (fun i => (i.zero, i.size, i.bytes)) = some (some (.string ⟨#[]⟩), 1, 16) := by kernel_rfl
theorem bytes_eq {a b : ByteArray} (h : a.toList = b.toList) : a = b := by
  rw [ba_toList, ba_toList] at h
  exact ByteArray.ext (Array.toList_inj.1 h)
theorem rest_txt (s : ByteArray) (p : Nat) : (s.extract p s.size).toList.isEmpty = decide (s.size ≤ p) := by
  rw [toList_isEmpty, ByteArray.size_extract]
  exact decide_eq_decide.2 (by omega)
end Go.Proofs.YtaoejgnfoecpfaaDoor
namespace Go.Proofs.YtaoejgnfoecpfaaDoor
set_option linter.unusedVariables false
set_option linter.unusedSimpArgs false
set_option linter.unusedSectionVars false
open Go.RowKit

/-- a block known whole (the kit's extra words) -/
def Blk (w : World) (g : Nat) (t : TypeId) (cs : Array Value) : Prop := w.heap[g]? = some (.cells cs t (0, 0))
section
variable {w w' : World} {g : Nat} {t : TypeId} {cs : Array Value}
theorem Blk.lt (h : Blk w g t cs) : g < w.heap.size := by
  rcases Nat.lt_or_ge g w.heap.size with hlt | hge
  · exact hlt
  · unfold Blk at h; rw [Array.getElem?_eq_none hge] at h; cases h
theorem Blk.cell (h : Blk w g t cs) (i : Nat) : w.cell? ⟨g, i, none⟩ = cs[i]? := cell_of_row w g i cs t (0, 0) h
theorem Blk.frozen (h : Blk w g t cs) (i : Nat) : w.frozen? ⟨g, i, none⟩ = false := by
  unfold Blk at h
  simp [World.frozen?, h]
theorem Blk.new (w : World) (t : TypeId) (cs : Array Value) : Blk (w.alloc (.cells cs t)) w.heap.size t cs := heap_alloc_new w _
theorem Blk.drew (h : Blk w g t cs) : Blk w.drew g t cs := h
theorem Blk.alloc (h : Blk w g t cs) (o : Obj) : Blk (w.alloc o) g t cs := (Below.heap_alloc w o g h.lt).trans h
theorem Blk.set_ (h : Blk w g t cs) (i : Nat) (u : Value) : Blk (w.setCell ⟨g, i, none⟩ u) g t (cs.setIfInBounds i u) := by
  unfold Blk at h ⊢
  simp [World.setCell, Array.getElem?_modify, h]
theorem Blk.far (h : Blk w g t cs) {p : Addr} (hp : g ≠ p.block) (u : Value) : Blk (w.setCell p u) g t cs := (Below.heap_setCell w p u g hp).trans h
theorem Blk.below {B : Nat} (h : Blk w g t cs) (hb : Below B w w') (hg : g < B) : Blk w' g t cs := (hb.block g hg).trans h
theorem Blk.grown {row : Option Nat} (h : Blk w g t cs) (hb : w.grownBy w' row) (hg : some g ≠ row) : Blk w' g t cs := (hb.block g h.lt hg).trans h
end
/-- only one block may have changed, and there are no new ones -/
structure Only (g : Nat) (w w' : World) : Prop where
  grown : w.grownBy w' (some g)
  size : w'.heap.size = w.heap.size
theorem Only.set (g i : Nat) (w : World) (u : Value) : Only g w (w.setCell ⟨g, i, none⟩ u) :=
  ⟨⟨rfl, rfl, rfl, by simp, fun k _ hk => Below.heap_setCell w _ _ k (fun e => hk (by rw [e]))⟩, by simp⟩
theorem Only.refl (g : Nat) (w : World) : Only g w w := ⟨World.grownBy.refl w _, rfl⟩
theorem Only.trans {g : Nat} {a b c : World} (h : Only g a b) (k : Only g b c) : Only g a c := ⟨h.grown.trans k.grown, k.size.trans h.size⟩
theorem Only.low {g B : Nat} {a w w' : World} (h : Only g w w') (hb : Below B a w) (hB : B ≤ w.heap.size) (hg : B ≤ g) : Below B a w' := hb.grown h.grown hB fun k hk => by cases hk; exact hg
theorem Only.far {g k : Nat} {w w' : World} {t : TypeId} {cs : Array Value} (h : Only g w w') (hb : Blk w k t cs) (hk : k ≠ g) : Blk w' k t cs := hb.grown h.grown (by simpa using hk)
/-- texts at an address, if there are any -/
def StrsA (W : World) (B : Nat) (A : Option Addr) (l : List ByteArray) : Prop := 0 < l.length → ∃ b o, A = some ⟨b, o, none⟩ ∧ b < B ∧ ∀ (j : Nat) (u : ByteArray), l[j]? = some u → W.cell? ⟨b, o + j, none⟩ = some (.string u)
def strsV (l : List ByteArray) : List Value := l.map Value.string
theorem own_strs {w : World} {B n c : Nat} {A : Option Addr} {l : List ByteArray} (h : w.ownsRow B 9 1 (.slice A n c) n (strsV l)) : StrsA w w.heap.size A l ∧ n = l.length := by
  have hn : n = l.length := by
    have := h.1
    simp [strsV] at this
    omega
  refine ⟨fun hl => ?_, hn⟩
  rcases h.2 with ⟨hv, _⟩ | ⟨g, cap, cur, hv, _⟩
  · simp at hv; omega
  · simp only [Value.slice.injEq] at hv
    obtain ⟨rfl, _, rfl⟩ := hv
    refine ⟨g, 0, rfl, (h.lt g rfl).2, fun j u hj => ?_⟩
    have hjl : j < l.length := (List.getElem?_eq_some_iff.1 hj).1
    rw [Nat.zero_add, h.cellAt j (by omega)]
    simp [strsV, hj]
theorem own_strs2 {w : World} {B n c : Nat} {A : Option Addr} {l : List ByteArray} (h : w.ownsRow B 9 1 (.slice A n c) n (strsV l)) (hl : 0 < l.length) : ∃ g, A = some ⟨g, 0, none⟩ ∧ B ≤ g ∧ g < w.heap.size ∧ ∀ (j : Nat) (u : ByteArray), l[j]? = some u → w.cell? ⟨g, 0 + j, none⟩ = some (.string u) := by
  have hn : n = l.length := by
    have := h.1
    simp [strsV] at this
    omega
  rcases h.2 with ⟨hv, _⟩ | ⟨g, cap, cur, hv, _⟩
  · simp at hv; omega
  · simp only [Value.slice.injEq] at hv
    obtain ⟨rfl, _, rfl⟩ := hv
    refine ⟨g, rfl, (h.lt g rfl).1, (h.lt g rfl).2, fun j u hj => ?_⟩
    have hjl : j < l.length := (List.getElem?_eq_some_iff.1 hj).1
    rw [Nat.zero_add, h.cellAt j (by omega)]
    simp [strsV, hj]
theorem own_form {w : World} {B n : Nat} {t : TypeId} {v : Value} {xs : List Value} (h : w.ownsRow B t 1 v n xs) : ∃ A c, v = .slice A n c ∧ n ≤ c := by
  rcases h.2 with ⟨hv, hn⟩ | ⟨g, cap, cur, hv, _, _, hc, _⟩
  · exact ⟨none, 0, by rw [hv, hn], by omega⟩
  · exact ⟨some ⟨g, 0, none⟩, cap, hv, hc⟩
theorem addr_add (b o j : Nat) : (⟨b, o, none⟩ : Addr).add j = ⟨b, o + j, none⟩ := by
  unfold Addr.add
  split <;> simp_all
theorem own_far {w : World} {B : Nat} {e : TypeId} {z n : Nat} {v : Value} {xs : List Value} (h : w.ownsRow B e z v n xs) {j : Nat} (hj : j < B) : v.ownBlock = none ∨ v.ownBlock ≠ some j := by
  cases hv : v.ownBlock with
  | none => exact .inl rfl
  | some k =>
    refine .inr fun e => ?_
    have := (h.lt k hv).1
    simp only [Option.some.injEq] at e
    omega
theorem own_ne {w : World} {B : Nat} {e : TypeId} {z n : Nat} {v : Value} {xs : List Value} (h : w.ownsRow B e z v n xs) {j : Nat} (hj : j < B) : some j ≠ v.ownBlock := fun e => by
  have := (h.lt j e.symm).1
  omega
theorem StrsA.below {W W' : World} {A : Option Addr} {l : List ByteArray} (h : StrsA W W.heap.size A l) (hb : Below W.heap.size W W') : StrsA W' W'.heap.size A l := fun hl => by
  obtain ⟨b, o, h1, h2, h3⟩ := h hl
  exact ⟨b, o, h1, Nat.lt_of_lt_of_le h2 hb.size, fun j u hj => (hb.cell (p := ⟨b, o + j, none⟩) h2).trans (h3 j u hj)⟩
/-- texts that lie below the boxes of a call -/
theorem StrsA.low {w W : World} {A : Option Addr} {l : List ByteArray} (h : StrsA w w.heap.size A l) (hb : Below w.heap.size w W) : StrsA W W.heap.size A l := h.below hb
theorem txt_ne (a b : ByteArray) : (a.toList == b.toList) = decide (a = b) := by
  by_cases h : a = b
  · rw [h]; simp
  · rw [decide_eq_false h, beq_eq_false_iff_ne]
    exact fun e => h (bytes_eq e)
end Go.Proofs.YtaoejgnfoecpfaaDoor
namespace Go.Proofs.YtaoejgnfoecpfaaDoor
set_option linter.unusedVariables false
set_option linter.unusedSimpArgs false
set_option linter.unusedSectionVars false
open Go Go.RowKit Go.Sort

structure Itm where
  path : ByteArray
  kind : Int
  mode : Int
  time : Int
  data : ByteArray
instance : Inhabited Itm := ⟨⟨⟨#[]⟩, 0, 0, 0, ⟨#[]⟩⟩⟩
def itmC (x : Itm) : List Value := [.string x.path, .int .i64 x.kind, .int .i64 x.mode, .int .i64 x.time, .string x.data]
/-- items of paths that are not long -/
structure PIt where
  it : Itm
  ok : it.path.size ≤ 1000000
instance : Inhabited PIt := ⟨⟨default, by decide⟩⟩
def pitC (x : PIt) : List Value := itmC x.it
theorem pitC_len (x : PIt) : (pitC x).length = 5 := rfl
theorem pitC_one (x : PIt) : ∀ v ∈ pitC x, v.oneCell' = true := fun v hv => by
  simp only [pitC, itmC, List.mem_cons, List.not_mem_nil, or_false] at hv
  rcases hv with rfl | rfl | rfl | rfl | rfl <;> rfl
def cfP (x y : PIt) : Int := cmpL (partsP x.it.path) (partsP y.it.path)
set_option maxRecDepth 100000 in
set_option maxHeartbeats 800000 in
/-- as pcompare_any, with the world to the letter -/
theorem pcompareX (a b : ByteArray) (w : World) (he : ∃ m, w.cell? ⟨0, 0, none⟩ = some (.int .i64 m)) (ha : a.size ≤ 1000000) (hb : b.size ≤ 1000000) :
    Calls Tryd.prog 88 #[.string a, .string b] w fun e w' => e = .returned (.int .i64 (cmpL (partsP a) (partsP b))) ∧ ∃ os, w' = grow w os := by
  obtain ⟨m, hm⟩ := he
  obtain ⟨a1, a2⟩ := split_parts a.size a (Nat.le_refl _)
  obtain ⟨b1, b2⟩ := split_parts b.size b (Nat.le_refl _)
  have hca : Lib.countB a slash ≤ a.size + 1 := by unfold Lib.countB; exact Lib.count_le _ _
  have hcb : Lib.countB b slash ≤ b.size + 1 := by unfold Lib.countB; exact Lib.count_le _ _
  have h1 := Tryd.strings_Split a slash m w (by omega) hm (by decide)
  rw [a1, ← a2] at h1
  have hw1 : Below w.heap.size w (w.alloc (.cells ((partsP a).map Value.string).toArray 9)) := (Below.refl _ w).alloc (Nat.le_refl _) _
  have hm1 := (hw1.cell (p := ⟨0, 0, none⟩) (cellLt hm)).trans hm
  have h2 := Tryd.strings_Split b slash m _ (by omega) hm1 (by decide)
  rw [b1, ← b2] at h2
  have hA := partsP_ne a
  have hB := partsP_ne b
  have hz1 : (w.alloc (.cells ((partsP a).map Value.string).toArray 9)).heap.size = w.heap.size + 1 := by simp
  have hr1 : StrRow ((w.alloc (.cells ((partsP a).map Value.string).toArray 9)).alloc (.cells ((partsP b).map Value.string).toArray 9)) w.heap.size (partsP a) := fun j u hj => by
    rw [((Below.refl (w.heap.size + 1) (w.alloc (.cells ((partsP a).map Value.string).toArray 9))).alloc (by simp) _).cell (p := ⟨w.heap.size, j, none⟩) (by simp)]
    exact strRow_new w (partsP a) j u hj
  have hr2 : StrRow ((w.alloc (.cells ((partsP a).map Value.string).toArray 9)).alloc (.cells ((partsP b).map Value.string).toArray 9)) (w.alloc (.cells ((partsP a).map Value.string).toArray 9)).heap.size (partsP b) := fun j u hj => strRow_new _ (partsP b) j u hj
  have h3 := slcmp_any (partsP a) (partsP b) w.heap.size _ (partsP a).length (partsP b).length _ hr1 hr2 (by omega) (by omega)
  have hg : ∃ os, (w.alloc (.cells ((partsP a).map Value.string).toArray 9)).alloc (.cells ((partsP b).map Value.string).toArray 9) = grow w os := ⟨_, by rw [alloc_eq_grow, alloc_eq_grow, grow_grow]⟩
  unfold slash at h1 h2
  rw [hz1] at h2 h3
  have H1 := Lib.hid h1
  have H2 := Lib.hid h2
  have H3 := Lib.hid h3
  have HG := Lib.hid hg
  clear h1 h2 h3 hr1 hr2 hm1 hm hw1 a1 b1 a2 b2 hz1 hca hcb hA hB ha hb hg
  go_enter Tryd.func88, Tryd.ntmps88
  go_wp2_with fail
  refine H1.out.mono ?_
  rintro e w1 ⟨rfl, rfl⟩
  go_wp2_with fail
  refine H2.out.mono ?_
  rintro e w1 ⟨rfl, rfl⟩
  go_wp2_with fail
  refine H3.out.mono ?_
  rintro e w1 ⟨rfl, rfl⟩
  go_wp2
  go_ret
  exact ⟨rfl, HG.out⟩
set_option maxRecDepth 100000 in
theorem bypath_any (x y : PIt) (w : World) (he : ∃ m, w.cell? ⟨0, 0, none⟩ = some (.int .i64 m)) :
    Calls Tryd.prog 90 #[.agg (pitC x).toArray, .agg (pitC y).toArray] w fun e w' => e = .returned (.int .i64 (cfP x y)) ∧ ∃ os, w' = grow w os := by
  obtain ⟨⟨a, k1, m1, t1, d1⟩, hx⟩ := x
  obtain ⟨⟨b, k2, m2, t2, d2⟩, hy⟩ := y
  simp only at hx hy
  unfold cfP pitC itmC
  simp only
  have hg : ∃ os, (w.alloc (.cells #[.string a, .int .i64 k1, .int .i64 m1, .int .i64 t1, .string d1] 59)).alloc (.cells #[.string b, .int .i64 k2, .int .i64 m2, .int .i64 t2, .string d2] 59) = grow w os := ⟨_, by rw [alloc_eq_grow, alloc_eq_grow, grow_grow]⟩
  have HG := Lib.hid hg
  have hw1 : Below w.heap.size w ((w.alloc (.cells #[.string a, .int .i64 k1, .int .i64 m1, .int .i64 t1, .string d1] 59)).alloc (.cells #[.string b, .int .i64 k2, .int .i64 m2, .int .i64 t2, .string d2] 59)) := ((Below.refl _ w).alloc (Nat.le_refl _) _).alloc (by simp) _
  obtain ⟨m, hm⟩ := he
  have hm1 := (hw1.cell (p := ⟨0, 0, none⟩) (cellLt hm)).trans hm
  have HC := Lib.hid (pcompareX a b _ ⟨m, hm1⟩ hx hy)
  clear hg hw1 hm hm1
  go_enter Tryd.func90, Tryd.ntmps90
  go_wp2_with fail
  refine HC.out.mono ?_
  rintro e w1 ⟨rfl, os, rfl⟩
  go_wp2
  go_ret
  obtain ⟨os1, e1⟩ := HG.out
  exact ⟨rfl, os1 ++ os, by rw [e1, grow_grow]⟩
/-- what a sort asks of its order, of items -/
theorem bypath_lays (blk off size : Nat) (w : World) (he : ∃ m, w.cell? ⟨0, 0, none⟩ = some (.int .i64 m)) (h0 : blk ≠ 0) : CmpLays Tryd.prog 90 #[] pitC 5 cfP blk off size w := fun m os dk _ x y => by
  obtain ⟨q, hq⟩ := he
  have hlt : 0 < w.heap.size := cellLt hq
  have hc : (sortWorldK pitC 5 w blk off m dk os).cell? ⟨0, 0, none⟩ = some (.int .i64 q) := by
    unfold sortWorldK
    rw [cell?_grow _ _ _ (by rw [size_putRowK]; exact hlt), cell?_putRowK_other _ _ _ _ _ _ _ (fun e => h0 e.symm)]
    exact hq
  refine (bypath_any x y _ ⟨q, hc⟩).mono fun e w' ⟨h1, os', h2⟩ => ⟨h1, 0, os', h2⟩
theorem swoP : SWO (ltOf cfP) where
  irrefl x := by
    unfold ltOf cfP
    rw [(cmpL_zero _ _).2 rfl]
    rfl
  trans x y z h1 h2 := by
    unfold ltOf cfP at *
    simp only [decide_eq_true_eq] at *
    have r1 := cmpL_range (partsP x.it.path) (partsP y.it.path)
    have r2 := cmpL_range (partsP y.it.path) (partsP z.it.path)
    have := cmpL_trans _ _ _ (show cmpL (partsP x.it.path) (partsP y.it.path) = -1 by omega) (show cmpL (partsP y.it.path) (partsP z.it.path) = -1 by omega)
    omega
  ntrans x y z h1 h2 := by
    unfold ltOf cfP at *
    simp only [decide_eq_false_iff_not] at *
    have t1 := cmpL_turn (partsP x.it.path) (partsP y.it.path)
    have t2 := cmpL_turn (partsP y.it.path) (partsP z.it.path)
    have t3 := cmpL_turn (partsP x.it.path) (partsP z.it.path)
    have := cmpL_min (partsP z.it.path) (partsP y.it.path) (partsP x.it.path) (by omega) (by omega)
    omega
end Go.Proofs.YtaoejgnfoecpfaaDoor
namespace Go.Proofs.YtaoejgnfoecpfaaDoor
set_option linter.unusedVariables false
set_option linter.unusedSimpArgs false
set_option linter.unusedSectionVars false
open Go.RowKit Go.Shelf
attribute [local go_sem] Oper.semAt_some

/-- items at an address, if there are any -/
def ItmA (w : World) (A : Option Addr) (l : List Itm) : Prop := 0 < l.length → ∃ g o, A = some ⟨g, o, none⟩ ∧ g < w.heap.size ∧ ∀ (i : Nat) (x : Itm), l[i]? = some x → ∀ (j : Nat) (u : Value), (itmC x)[j]? = some u → w.cell? ⟨g, o + i * 5 + j, none⟩ = some u
theorem ItmA.below {w w' : World} {A : Option Addr} {l : List Itm} (h : ItmA w A l) (hb : Below w.heap.size w w') : ItmA w' A l := fun hl => by
  obtain ⟨g, o, h1, h2, h3⟩ := h hl
  exact ⟨g, o, h1, Nat.lt_of_lt_of_le h2 hb.size, fun i x hx j u hj => (hb.cell (p := ⟨g, o + i * 5 + j, none⟩) h2).trans (h3 i x hx j u hj)⟩
set_option maxRecDepth 100000 in
theorem values_any (A : Option Addr) (n c : Nat) (w : World) :
    Calls Tryd.prog 108 #[.slice A n c] w fun e w' => e = .returned (.func (.func 122) #[] #[.pointer (some ⟨w.heap.size, 0, none⟩)]) ∧ w' = w.alloc (.cells #[.slice A n c] 49) := by
  go_enter Tryd.func108, Tryd.ntmps108
  go_wp2
  go_ret
  exact ⟨rfl, rfl⟩
set_option maxRecDepth 100000 in
set_option maxHeartbeats 3200000 in
theorem vals_in (n : Nat) (hn : 1 ≤ n) (l b : Nat) (A : Option Addr) (c : Nat) (xs : List Itm) (hlen : xs.length ≤ 9223372036854775807) (J : Nat → World → Prop)
    (hJ : ∀ i W, J i W → W.cell? ⟨b, 0, none⟩ = some (.slice A xs.length c) ∧ ItmA W A xs)
    (hB : ∀ i W W', J i W → Below W.heap.size W W' → J i W')
    (hY : ∀ i W x, xs[i]? = some x → J i W → YieldAt Fence.wide (n - 1) Tryd.prog l #[.agg #[.string x.path, .int .i64 x.kind, .int .i64 x.mode, .int .i64 x.time, .string x.data]] W fun e W' => e = .returned (.bool true) ∧ J (i + 1) W')
    (W : World) (h0 : J 0 W) :
    CallsIn Fence.wide n Tryd.prog 122 #[.func (.yield l) #[] #[], .pointer (some ⟨b, 0, none⟩)] W fun e W' => (∃ v, e = .returned v) ∧ J xs.length W' := by
  refine callsIn_of_wp Tryd.func122 rfl trivial ?_ rfl
  simp only [Tryd.ntmps122, List.size_toArray, List.length_cons, List.length_nil, Nat.reduceAdd, Nat.reduceSub, Array.replicate_succ, Array.replicate_zero, List.push_toArray, List.append_toArray, List.nil_append, List.cons_append]
  have hc := (hJ 0 W h0).1
  have HJ := Lib.hid hJ
  have HB := Lib.hid hB
  have HY := Lib.hid hY
  have H0 := Lib.hid h0
  clear hJ hB hY h0
  gi_wp2
  gi_loopw [7] (fun vi wr => ∃ i : Nat, vi = .int .i64 i ∧ i ≤ xs.length ∧ Hid (J i wr)) (fun vi _ => xs.length - (intOf vi).toNat)
  case atStart => exact ⟨0, rfl, Nat.zero_le _, H0⟩
  case round =>
    obtain ⟨i, rfl, hi, hj⟩ := hrel
    by_cases hlt : i < xs.length
    · have hz : (i : Int) < (xs.length : Int) := by omega
      obtain ⟨x, hx⟩ : ∃ x, xs[i]? = some x := ⟨_, List.getElem?_eq_getElem hlt⟩
      obtain ⟨g, o, rfl, hg, hcc⟩ := (HJ.out i wr hj.out).2 (by omega)
      have hcx := hcc i x hx
      have HX := Lib.hid hx
      clear hcc hx
      obtain ⟨pa, ki, mo, ti, da⟩ := x
      have q0 : wr.cell? ⟨g, o + i * 5, none⟩ = some (.string pa) := hcx 0 _ rfl
      have q1 : wr.cell? ⟨g, o + i * 5 + 1, none⟩ = some (.int .i64 ki) := hcx 1 _ rfl
      have q2 : wr.cell? ⟨g, o + i * 5 + 2, none⟩ = some (.int .i64 mo) := hcx 2 _ rfl
      have q3 : wr.cell? ⟨g, o + i * 5 + 3, none⟩ = some (.int .i64 ti) := hcx 3 _ rfl
      have q4 : wr.cell? ⟨g, o + i * 5 + 4, none⟩ = some (.string da) := hcx 4 _ rfl
      clear hcx
      obtain ⟨fn, tm, asn, bd, hy, hR⟩ := HY.out i (wr.alloc (.cells #[.string pa, .int .i64 ki, .int .i64 mo, .int .i64 ti, .string da] 59)) ⟨pa, ki, mo, ti, da⟩ HX.out (HB.out i wr _ hj.out ((Below.refl _ wr).alloc (Nat.le_refl _) _))
      have HC := Lib.hid hR
      clear hR
      gi_wp2
      refine HC.out.mono ?_
      rintro e W3 ⟨rfl, hJ3⟩
      have HJ3 := Lib.hid hJ3
      clear hJ3
      gi_wp2
      go_roundw
      case rel => exact ⟨i + 1, by go_num, by omega, HJ3⟩
      case measure => simp [intOf]; omega
    · have hz : ¬ (i : Int) < (xs.length : Int) := by omega
      obtain rfl : i = xs.length := by omega
      gi_wp2
      go_end0
      exact ⟨⟨_, rfl⟩, hj.out⟩
end Go.Proofs.YtaoejgnfoecpfaaDoor
