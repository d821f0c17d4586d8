/- SHA-256 on words of 32 bits: plain law. SHA-256 on bits: plain law of the document's words. SHA-256: words of 32 bits as the program reckons with them. SHA-256: the first 64 primes, and their roots. SHA-256: a block: turning a word. The document's words: lists of bits in memory; a number as a word. -/
import Derived.Test.YtpeepdkeicgkiaaGreatDoorZo1
import Derived.Test.YtpeepdkeicgkiaaGreatDoorZo4
import Derived.Laws.BitsAllLaws
import Derived.StillTailTactics
import Derived.Deep.Quiet
import Derived.BigQuiet
import Derived.Deep.MidRow
import Derived.Deep.WholeRow
import Derived.Deep.DeepCutAuto
namespace Go.Proofs.YtpeepdkeicgkiaaGreatDoor
set_option linter.unusedVariables false
set_option linter.unusedSimpArgs false
set_option linter.unusedSectionVars false
open Go.RowKit

/-- a word of 32 bits -/
abbrev W32 := BitVec 32
def sA (x : W32) : W32 := x.rotateRight 7 ^^^ x.rotateRight 18 ^^^ x >>> 3
def sB (x : W32) : W32 := x.rotateRight 17 ^^^ x.rotateRight 19 ^^^ x >>> 10
def sC (x : W32) : W32 := x.rotateRight 6 ^^^ x.rotateRight 11 ^^^ x.rotateRight 25
def sD (x : W32) : W32 := x.rotateRight 2 ^^^ x.rotateRight 13 ^^^ x.rotateRight 22
def chW (e f g : W32) : W32 := e &&& f ^^^ ~~~e &&& g
def maW (a b c : W32) : W32 := a &&& b ^^^ a &&& c ^^^ b &&& c
/-- eight words -/
structure V8 where
  a : W32
  b : W32
  c : W32
  d : W32
  e : W32
  f : W32
  g : W32
  h : W32
deriving DecidableEq
def V8.toL (v : V8) : List W32 := [v.a, v.b, v.c, v.d, v.e, v.f, v.g, v.h]
def V8.add (x y : V8) : V8 := ⟨x.a + y.a, x.b + y.b, x.c + y.c, x.d + y.d, x.e + y.e, x.f + y.f, x.g + y.g, x.h + y.h⟩
def V8.step (v : V8) (k w : W32) : V8 :=
  let t := v.h + sC v.e + chW v.e v.f v.g + k + w
  let u := sD v.a + maW v.a v.b v.c
  ⟨t + u, v.a, v.b, v.c, v.d + t, v.e, v.f, v.g⟩
/-- the first n primes, as the program finds them: those below p -/
def pl : Nat → List Nat
  | 0 => []
  | p + 1 => if 2 ≤ p ∧ (pl p).all (fun q => p % q != 0) then pl p ++ [p] else pl p
/-- a round of the root -/
def rootN (p : Nat) (cube : Bool) (x b : Nat) : Nat :=
  let y := x ||| b
  let hi := y * y / 18446744073709551616
  let lo := y * y % 18446744073709551616
  let h2 := if cube then hi * y + lo * y / 18446744073709551616 else hi
  let top := if cube then 4294967296 * p else p
  if h2 < top ∨ h2 = top ∧ cube = false ∧ lo = 0 then y else x
/-- behind k rounds -/
def rootK (p : Nat) (cube : Bool) : Nat → Nat
  | 0 => 0
  | k + 1 => rootN p cube (rootK p cube k) (2 ^ (36 - k))
def rootF (p : Nat) (cube : Bool) : W32 := BitVec.ofNat 32 (rootK p cube 37)
def primes64 : List Nat := [2, 3, 5, 7, 11, 13, 17, 19, 23, 29, 31, 37, 41, 43, 47, 53, 59, 61, 67, 71, 73, 79, 83, 89, 97, 101, 103, 107, 109, 113, 127, 131, 137, 139, 149, 151, 157, 163, 167, 173, 179, 181, 191, 193, 197, 199, 211, 223, 227, 229, 233, 239, 241, 251, 257, 263, 269, 271, 277, 281, 283, 293, 307, 311]
def ktab : List W32 := [0x428a2f98, 0x71374491, 0xb5c0fbcf, 0xe9b5dba5, 0x3956c25b, 0x59f111f1, 0x923f82a4, 0xab1c5ed5, 0xd807aa98, 0x12835b01, 0x243185be, 0x550c7dc3, 0x72be5d74, 0x80deb1fe, 0x9bdc06a7, 0xc19bf174, 0xe49b69c1, 0xefbe4786, 0x0fc19dc6, 0x240ca1cc, 0x2de92c6f, 0x4a7484aa, 0x5cb0a9dc, 0x76f988da, 0x983e5152, 0xa831c66d, 0xb00327c8, 0xbf597fc7, 0xc6e00bf3, 0xd5a79147, 0x06ca6351, 0x14292967, 0x27b70a85, 0x2e1b2138, 0x4d2c6dfc, 0x53380d13, 0x650a7354, 0x766a0abb, 0x81c2c92e, 0x92722c85, 0xa2bfe8a1, 0xa81a664b, 0xc24b8b70, 0xc76c51a3, 0xd192e819, 0xd6990624, 0xf40e3585, 0x106aa070, 0x19a4c116, 0x1e376c08, 0x2748774c, 0x34b0bcb5, 0x391c0cb3, 0x4ed8aa4a, 0x5b9cca4f, 0x682e6ff3, 0x748f82ee, 0x78a5636f, 0x84c87814, 0x8cc70208, 0x90befffa, 0xa4506ceb, 0xbef9a3f7, 0xc67178f2]
def htab : V8 := ⟨0x6a09e667, 0xbb67ae85, 0x3c6ef372, 0xa54ff53a, 0x510e527f, 0x9b05688c, 0x1f83d9ab, 0x5be0cd19⟩
theorem pl_all : pl 312 = primes64 := by decide +kernel
theorem pl_le (p : Nat) : (pl p).length ≤ (pl (p + 1)).length := by
  show _ ≤ (if _ then _ else _ : List Nat).length
  split
  · rw [List.length_append]; omega
  · exact Nat.le_refl _
theorem pl_mono {p q : Nat} (h : p ≤ q) : (pl p).length ≤ (pl q).length := by
  induction q with
  | zero => obtain rfl : p = 0 := by omega
            exact Nat.le_refl _
  | succ q ih =>
    by_cases e : p = q + 1
    · subst e; exact Nat.le_refl _
    · exact Nat.le_trans (ih (by omega)) (pl_le q)
theorem pl_few {p : Nat} (h : p ≤ 311) : (pl p).length < 64 := by
  have h1 := pl_mono h
  have h2 : (pl 311).length = 63 := by decide +kernel
  omega
theorem ktab_is : primes64.map (rootF · true) = ktab := by decide +kernel
theorem htab_is : (primes64.take 8).map (rootF · false) = htab.toL := by decide +kernel
theorem pl_lt : ∀ (p q : Nat), q ∈ pl p → 2 ≤ q ∧ q < p := by
  intro p
  induction p with
  | zero => intro q h; cases h
  | succ p ih =>
    intro q h
    unfold pl at h
    split at h
    · next hp =>
      rcases List.mem_append.1 h with h | h
      · have := ih q h; omega
      · have : q = p := by simpa using h
        omega
    · have := ih q h; omega
theorem ite_lt {c : Prop} [Decidable c] {x y n : Nat} (h : x < n) (h2 : y < n) : (if c then x else y) < n := by
  split
  · exact h
  · exact h2
theorem rootK_lt (p : Nat) (cube : Bool) (k : Nat) : rootK p cube k < 2 ^ 37 := by
  induction k with
  | zero => exact Nat.pos_of_ne_zero (by decide)
  | succ k ih =>
    show rootN p cube (rootK p cube k) (2 ^ (36 - k)) < _
    unfold rootN
    have hb : 2 ^ (36 - k) < 2 ^ 37 := Nat.pow_lt_pow_right (by decide) (by omega)
    have hy := Nat.or_lt_two_pow ih hb
    dsimp only
    generalize rootK p cube k ||| 2 ^ (36 - k) = y at hy ⊢
    exact ite_lt hy ih

/-- a word of four bytes, the highest first -/
def beW (a b c d : UInt8) : W32 := (a.toBitVec.setWidth 32) <<< 24 ||| (b.toBitVec.setWidth 32) <<< 16 ||| (c.toBitVec.setWidth 32) <<< 8 ||| (d.toBitVec.setWidth 32)
def msgW (l : List UInt8) (i : Nat) : W32 := beW (l.getD (4 * i) 0) (l.getD (4 * i + 1) 0) (l.getD (4 * i + 2) 0) (l.getD (4 * i + 3) 0)
/-- the words of the steps: the first k -/
def sched (l : List UInt8) : Nat → List W32
  | 0 => []
  | k + 1 => sched l k ++ [if k < 16 then msgW l k else (sched l k).getD (k - 16) 0 + sA ((sched l k).getD (k - 15) 0) + (sched l k).getD (k - 7) 0 + sB ((sched l k).getD (k - 2) 0)]
theorem sched_len (l : List UInt8) (k : Nat) : (sched l k).length = k := by
  induction k with
  | zero => rfl
  | succ k ih => show (_ ++ _ : List W32).length = _; rw [List.length_append, ih]; rfl
def rounds (v : V8) (w : List W32) : Nat → V8
  | 0 => v
  | n + 1 => (rounds v w n).step (ktab.getD n 0) (w.getD n 0)
/-- a block of 64 bytes -/
def blockF (v : V8) (l : List UInt8) : V8 := v.add (rounds v (sched l 64) 64)
/-- so many blocks -/
def blocksN (v : V8) (l : List UInt8) : Nat → V8
  | 0 => v
  | n + 1 => blockF (blocksN v l n) ((l.drop (64 * n)).take 64)
/-- all whole blocks -/
def blocksF (v : V8) (l : List UInt8) : V8 := blocksN v l (l.length / 64)
theorem blocksN_append (v : V8) (l m : List UInt8) (n : Nat) (h : 64 * n ≤ l.length) : blocksN v (l ++ m) n = blocksN v l n := by
  induction n with
  | zero => rfl
  | succ n ih =>
    show blockF (blocksN v (l ++ m) n) (((l ++ m).drop (64 * n)).take 64) = blockF (blocksN v l n) ((l.drop (64 * n)).take 64)
    rw [ih (by omega), List.drop_append_of_le_length (by omega), List.take_append_of_le_length (by rw [List.length_drop]; omega)]
theorem blocksN_add (v : V8) (l : List UInt8) (n m : Nat) : blocksN v l (n + m) = blocksN (blocksN v l n) (l.drop (64 * n)) m := by
  induction m with
  | zero => rfl
  | succ m ih =>
    show blockF (blocksN v l (n + m)) ((l.drop (64 * (n + m))).take 64) = blockF (blocksN (blocksN v l n) (l.drop (64 * n)) m) (((l.drop (64 * n)).drop (64 * m)).take 64)
    rw [ih, List.drop_drop, Nat.mul_add]
/-- what is left behind whole blocks -/
def restB (l : List UInt8) : List UInt8 := l.drop (64 * (l.length / 64))
theorem restB_len (l : List UInt8) : (restB l).length = l.length % 64 := by
  unfold restB
  rw [List.length_drop]; omega
/-- written in two parts -/
theorem blocks_two (v : V8) (l m : List UInt8) : blocksF (blocksF v l) (restB l ++ m) = blocksF v (l ++ m) := by
  have e : restB l ++ m = (l ++ m).drop (64 * (l.length / 64)) := by
    unfold restB
    rw [List.drop_append_of_le_length (by omega)]
  have e2 : (l ++ m).length / 64 = l.length / 64 + (restB l ++ m).length / 64 := by
    rw [List.length_append, List.length_append, restB_len]; omega
  unfold blocksF
  rw [e2, blocksN_add, blocksN_append v l m (l.length / 64) (by omega), ← e]
/-- what stands behind a text of n bytes -/
def padB (n : Nat) : List UInt8 := 128 :: List.replicate ((119 - n % 64) % 64) 0 ++ (List.range 8).map fun i => UInt8.ofNat (n * 8 / 2 ^ (56 - 8 * i))
theorem padB_len (n : Nat) : (n + (padB n).length) % 64 = 0 := by
  unfold padB
  simp only [List.length_cons, List.length_append, List.length_replicate, List.length_map, List.length_range, List.cons_append]
  omega
def bytesW (x : W32) : List UInt8 := [UInt8.ofNat (x.toNat / 16777216), UInt8.ofNat (x.toNat / 65536), UInt8.ofNat (x.toNat / 256), UInt8.ofNat x.toNat]
/-- SHA-256: 32 bytes -/
def sumL (l : List UInt8) : List UInt8 := (blocksF htab (l ++ padB l.length)).toL.flatMap bytesW
theorem sumL_len (l : List UInt8) : (sumL l).length = 32 := rfl
end Go.Proofs.YtpeepdkeicgkiaaGreatDoor
namespace Go.Proofs.YtpeepdkeicgkiaaGreatDoor
set_option linter.unusedVariables false
set_option linter.unusedSimpArgs false
set_option linter.unusedSectionVars false
open Go.RowKit

theorem msb_get (x : W32) {i : Nat} (h : i < 32) : x.getMsbD i = x.getLsbD (31 - i) := by
  rw [BitVec.getMsbD_eq_getLsbD, decide_eq_true h]; simp
/-- the carry behind k bits -/
def carW (s w : W32) (k : Nat) : Bool := BitVec.carry k s w false
theorem carW_zero (s w : W32) : carW s w 0 = false := BitVec.carry_zero
theorem add_bit (s w : W32) {i : Nat} (h : i < 32) : (s + w).getMsbD i = ((s.getMsbD i != w.getMsbD i) != carW s w (31 - i)) := by
  rw [msb_get _ h, msb_get _ h, msb_get _ h, BitVec.getLsbD_add (by omega)]
  unfold carW
  cases s.getLsbD (31 - i) <;> cases w.getLsbD (31 - i) <;> cases BitVec.carry (31 - i) s w false <;> rfl
theorem car_bit (s w : W32) {i : Nat} (h : i < 32) : carW s w (32 - i) = (s.getMsbD i && w.getMsbD i || s.getMsbD i && carW s w (31 - i) || w.getMsbD i && carW s w (31 - i)) := by
  rw [msb_get _ h, msb_get _ h]
  unfold carW
  have e : ∀ a b c : Bool, a.atLeastTwo b c = (a && b || a && c || b && c) := by decide
  rw [show 32 - i = 31 - i + 1 by omega, BitVec.carry_succ, e]
theorem rot_bit (x : W32) {r i : Nat} (hr : r < 32) (h : i < 32) : (x.rotateRight r).getMsbD i = x.getMsbD ((i + 32 - r) % 32) := by
  rw [BitVec.getMsbD_rotateRight, decide_eq_true h, Nat.mod_eq_of_lt hr]
  by_cases hlt : i < r
  · rw [if_pos hlt, show 32 + i - r = i + 32 - r by omega]; simp
  · rw [if_neg hlt, show (i + 32 - r) % 32 = i - r by omega]; simp
theorem shr_bit (x : W32) {r i : Nat} (h : i < 32) : (x >>> r).getMsbD i = if r ≤ i then x.getMsbD ((i + 32 - r) % 32) else false := by
  rw [BitVec.getMsbD_ushiftRight, decide_eq_true h]
  by_cases hlt : i < r
  · rw [decide_eq_true hlt, if_neg (by omega)]; rfl
  · rw [decide_eq_false hlt, if_pos (by omega), show (i + 32 - r) % 32 = i - r by omega]; simp
/-- what the document turns -/
def trnW (x : W32) (a b c : Nat) (shift : Bool) : W32 := x.rotateRight a ^^^ x.rotateRight b ^^^ (if shift then x >>> c else x.rotateRight c)
theorem trn_bit (x : W32) {a b c i : Nat} (shift : Bool) (ha : a < 32) (hb : b < 32) (hc : c < 32) (h : i < 32) :
    (trnW x a b c shift).getMsbD i = (if !shift || decide (c ≤ i) then ((x.getMsbD ((i + 32 - a) % 32) != x.getMsbD ((i + 32 - b) % 32)) != x.getMsbD ((i + 32 - c) % 32)) else (x.getMsbD ((i + 32 - a) % 32) != x.getMsbD ((i + 32 - b) % 32))) := by
  unfold trnW
  rw [BitVec.getMsbD_xor, BitVec.getMsbD_xor, rot_bit x ha h, rot_bit x hb h]
  cases shift
  · rw [if_neg (by simp), rot_bit x hc h]
    cases x.getMsbD ((i + 32 - a) % 32) <;> cases x.getMsbD ((i + 32 - b) % 32) <;> cases x.getMsbD ((i + 32 - c) % 32) <;> rfl
  · rw [if_pos rfl, shr_bit x h]
    by_cases hci : c ≤ i
    · simp only [hci, if_true, decide_true]
      cases x.getMsbD ((i + 32 - a) % 32) <;> cases x.getMsbD ((i + 32 - b) % 32) <;> cases x.getMsbD ((i + 32 - c) % 32) <;> rfl
    · simp only [hci, if_false, decide_false]
      cases x.getMsbD ((i + 32 - a) % 32) <;> cases x.getMsbD ((i + 32 - b) % 32) <;> rfl
theorem trn_A (x : W32) : trnW x 7 18 3 true = sA x := rfl
theorem trn_B (x : W32) : trnW x 17 19 10 true = sB x := rfl
theorem trn_C (x : W32) : trnW x 6 11 25 false = sC x := rfl
theorem trn_D (x : W32) : trnW x 2 13 22 false = sD x := rfl
theorem ch_bit (e f g : W32) (i : Nat) (h : i < 32) : (chW e f g).getMsbD i = (e.getMsbD i && f.getMsbD i || !e.getMsbD i && g.getMsbD i) := by
  unfold chW
  rw [BitVec.getMsbD_xor, BitVec.getMsbD_and, BitVec.getMsbD_and, BitVec.getMsbD_not, decide_eq_true h]
  cases e.getMsbD i <;> cases f.getMsbD i <;> cases g.getMsbD i <;> rfl
theorem ma_bit (e f g : W32) (i : Nat) : (maW e f g).getMsbD i = (e.getMsbD i && f.getMsbD i || e.getMsbD i && g.getMsbD i || f.getMsbD i && g.getMsbD i) := by
  unfold maW
  rw [BitVec.getMsbD_xor, BitVec.getMsbD_xor, BitVec.getMsbD_and, BitVec.getMsbD_and, BitVec.getMsbD_and]
  cases e.getMsbD i <;> cases f.getMsbD i <;> cases g.getMsbD i <;> rfl
/-- a step, as the document adds it up -/
def V8.stepD (v : V8) (k w : W32) : V8 :=
  let t := ((((0 + v.h) + sC v.e) + chW v.e v.f v.g) + k) + w
  let u := (0 + sD v.a) + maW v.a v.b v.c
  ⟨(0 + t) + u, v.a, v.b, v.c, (0 + v.d) + t, v.e, v.f, v.g⟩
theorem stepD_is (v : V8) (k w : W32) : v.stepD k w = v.step k w := by
  have z : ∀ x : W32, 0 + x = x := fun x => BitVec.zero_add x
  unfold V8.stepD V8.step
  simp only [z]
end Go.Proofs.YtpeepdkeicgkiaaGreatDoor
namespace Go.Proofs.YtpeepdkeicgkiaaGreatDoor
set_option linter.unusedVariables false
set_option linter.unusedSimpArgs false
set_option linter.unusedSectionVars false
open Go.RowKit

/-- a word as a number -/
def iW (x : W32) : Int := x.toNat
theorem iW_nat (x : W32) : iW x = ((x.toNat : Nat) : Int) := rfl
theorem iW_bd (x : W32) : 0 ≤ iW x ∧ iW x < 4294967296 := by
  have := x.isLt
  unfold iW
  omega
theorem wrapW (n : Nat) : IntKind.u32.wrap (n : Int) = iW (BitVec.ofNat 32 n) := by
  unfold iW
  rw [BitVec.toNat_ofNat]
  rw [show IntKind.u32.wrap (n : Int) = (n : Int) % 4294967296 from rfl]
  omega
@[go_sem high] theorem xorW (x y : W32) (w : World) : (binOp .xor 148 (.int .u32 (iW x)) (.int .u32 (iW y))).run Tryz.prog w = .ok (.int .u32 (iW (x ^^^ y))) w := by
  go_simp
  rw [iW_nat x, iW_nat y, u32_xor_nat _ _ x.isLt y.isLt, iW_nat, BitVec.toNat_xor]
@[go_sem high] theorem andW (x y : W32) (w : World) : (binOp .and 148 (.int .u32 (iW x)) (.int .u32 (iW y))).run Tryz.prog w = .ok (.int .u32 (iW (x &&& y))) w := by
  go_simp
  rw [iW_nat x, iW_nat y, u32_and_nat _ _ x.isLt y.isLt, iW_nat, BitVec.toNat_and]
@[go_sem high] theorem orW (x y : W32) (w : World) : (binOp .or 148 (.int .u32 (iW x)) (.int .u32 (iW y))).run Tryz.prog w = .ok (.int .u32 (iW (x ||| y))) w := by
  go_simp
  rw [iW_nat x, iW_nat y, u32_or_nat _ _ x.isLt y.isLt, iW_nat, BitVec.toNat_or]
theorem wrapI (n : Int) : IntKind.u32.wrap n = n % 4294967296 := rfl
@[go_sem high] theorem addW (x y : W32) (w : World) : (binOp .add 148 (.int .u32 (iW x)) (.int .u32 (iW y))).run Tryz.prog w = .ok (.int .u32 (iW (x + y))) w := by
  have h := x.isLt
  have h2 := y.isLt
  go_simp
  simp only [iW, BitVec.toNat_add]
  try rw [wrapI]
  omega
@[go_sem high] theorem notW (x : W32) (w : World) : (Op.unary .xor (.int .u32 (iW x))).run Tryz.prog w = .ok (.int .u32 (iW (~~~x))) w := by
  have e : (if IntKind.u32.signed = true then (-1 : Int) else IntKind.u32.max) = ((4294967295 : Nat) : Int) := by decide
  go_simp
  clear e
  rw [show (4294967295 : Int) = ((4294967295 : Nat) : Int) from rfl, iW_nat x, u32_xor_nat _ _ (by decide) x.isLt, iW_nat, BitVec.toNat_not]
  congr 1
  have h' : x.toNat < 2 ^ 32 := x.isLt
  apply Nat.eq_of_testBit_eq
  intro i
  rw [show (2 ^ 32 - 1 - x.toNat : Nat) = 2 ^ 32 - (x.toNat + 1) by omega, Nat.testBit_two_pow_sub_succ h', Nat.testBit_xor, show (4294967295 : Nat) = 2 ^ 32 - 1 by decide, Nat.testBit_two_pow_sub_one]
  by_cases hi : i < 32
  · simp [hi]
  · have : x.toNat.testBit i = false := Nat.testBit_lt_two_pow (Nat.lt_of_lt_of_le h' (Nat.pow_le_pow_right (n := 2) (by decide) (by omega)))
    simp [hi, this]
theorem shrW (x : W32) (k : Nat) (hk : k < 32) (w : World) : (Op.shift .shr .u32 (iW x) .u64 (k : Nat)).run Tryz.prog w = .ok (.int .u32 (iW (x >>> k))) w := by
  go_simp
  rw [iW_nat x, iW_nat, BitVec.toNat_ushiftRight, Nat.shiftRight_eq_div_pow]
  have e : (2 : Int) ^ k = ((2 ^ k : Nat) : Int) := by simp
  rw [e]
  rfl
theorem shlW (x : W32) (k : Nat) (hk : k < 32) (w : World) : (Op.shift .shl .u32 (iW x) .u64 (k : Nat)).run Tryz.prog w = .ok (.int .u32 (iW (x <<< k))) w := by
  go_simp
  rw [iW_nat x, iW_nat, BitVec.toNat_shiftLeft, Nat.shiftLeft_eq]
  have e : (2 : Int) ^ k = ((2 ^ k : Nat) : Int) := by simp
  rw [e, wrapI]
  rfl
@[go_sem high] theorem ofByte (b : UInt8) (w : World) : (convert 5 148 (.int .u8 (b.toNat : Int))).run Tryz.prog w = .ok (.int .u32 (iW (b.toBitVec.setWidth 32))) w := by
  have h := b.toNat_lt
  go_simp
  rw [iW_nat, BitVec.toNat_setWidth, wrapI]
  have e : b.toBitVec.toNat = b.toNat := rfl
  rw [e]
  omega
@[go_sem high] theorem toByte (x : W32) (w : World) : (convert 148 5 (.int .u32 (iW x))).run Tryz.prog w = .ok (.int .u8 ((UInt8.ofNat x.toNat).toNat : Int)) w := by
  go_simp
  rfl
@[go_sem high] theorem shr3 (x : W32) (w : World) : (Op.shift .shr .u32 (iW x) .u64 3).run Tryz.prog w = .ok (.int .u32 (iW (x >>> 3))) w := shrW x 3 (by decide) w
@[go_sem high] theorem shr10 (x : W32) (w : World) : (Op.shift .shr .u32 (iW x) .u64 10).run Tryz.prog w = .ok (.int .u32 (iW (x >>> 10))) w := shrW x 10 (by decide) w
@[go_sem high] theorem shr8 (x : W32) (w : World) : (Op.shift .shr .u32 (iW x) .u64 8).run Tryz.prog w = .ok (.int .u32 (iW (x >>> 8))) w := shrW x 8 (by decide) w
@[go_sem high] theorem shr16 (x : W32) (w : World) : (Op.shift .shr .u32 (iW x) .u64 16).run Tryz.prog w = .ok (.int .u32 (iW (x >>> 16))) w := shrW x 16 (by decide) w
@[go_sem high] theorem shr24 (x : W32) (w : World) : (Op.shift .shr .u32 (iW x) .u64 24).run Tryz.prog w = .ok (.int .u32 (iW (x >>> 24))) w := shrW x 24 (by decide) w
@[go_sem high] theorem shl8 (x : W32) (w : World) : (Op.shift .shl .u32 (iW x) .u64 8).run Tryz.prog w = .ok (.int .u32 (iW (x <<< 8))) w := shlW x 8 (by decide) w
@[go_sem high] theorem shl16 (x : W32) (w : World) : (Op.shift .shl .u32 (iW x) .u64 16).run Tryz.prog w = .ok (.int .u32 (iW (x <<< 16))) w := shlW x 16 (by decide) w
@[go_sem high] theorem shl24 (x : W32) (w : World) : (Op.shift .shl .u32 (iW x) .u64 24).run Tryz.prog w = .ok (.int .u32 (iW (x <<< 24))) w := shlW x 24 (by decide) w
end Go.Proofs.YtpeepdkeicgkiaaGreatDoor
namespace Go.Proofs.YtpeepdkeicgkiaaGreatDoor
set_option linter.unusedVariables false
set_option linter.unusedSimpArgs false
set_option linter.unusedSectionVars false
open Go.RowKit

def u64V (l : List Nat) : List Value := l.map fun (n : Nat) => .int .u64 (n : Int)
theorem u64V_get {l : List Nat} {k : Nat} (h : k < l.length) : (u64V l)[k]? = some (.int .u64 (l[k] : Int)) := by simp [u64V, List.getElem?_eq_getElem h]
theorem infoU64 : (Tryz.prog.info? 86).map (fun i => (i.zero, i.size, i.bytes)) = some (some (.int .u64 0), 1, 8) := by kernel_rfl
theorem own_at {w : World} {base : Nat} {e : TypeId} {A : Option Addr} {n cap : Nat} {xs : List Value} (h : w.ownsRow base e 1 (.slice A n cap) n xs) (hn : 0 < n) : ∃ g, A = some ⟨g, 0, none⟩ ∧ base ≤ g ∧ g < w.heap.size ∧ ∀ j u, xs[j]? = some u → w.cell? ⟨g, j, none⟩ = some u := by
  obtain ⟨h1, h2 | ⟨g, cap', cur, hv, hg, hh, h5⟩⟩ := h
  · have := h2.2; omega
  · have hv' := hv
    injection hv' with e1 e2 e3
    subst e1
    refine ⟨g, rfl, hg, (Array.getElem?_eq_some_iff.1 hh).1, fun j u hj => ?_⟩
    have := own_cell (w := w) ⟨h1, Or.inr ⟨g, cap', cur, hv, hg, hh, h5⟩⟩ hj
    have hadd : (⟨g, 0, none⟩ : Addr).add j = ⟨g, j, none⟩ := by unfold Addr.add; split <;> simp_all
    rwa [hadd] at this
theorem pl_yes {p : Nat} (h : 2 ≤ p) (ha : (pl p).all (fun q => p % q != 0) = true) : pl (p + 1) = pl p ++ [p] := by
  show (if _ then _ else _ : List Nat) = _
  rw [if_pos ⟨h, ha⟩]
theorem pl_no {p : Nat} (ha : (pl p).all (fun q => p % q != 0) = false) : pl (p + 1) = pl p := by
  show (if _ then _ else _ : List Nat) = _
  rw [if_neg (by rw [ha]; simp)]
theorem mod_ne (k q : Nat) : ((k : Int) % (q : Int) != 0) = (k % q != 0) := by
  have : (k : Int) % (q : Int) = ((k % q : Nat) : Int) := rfl
  rw [this]
  cases k % q <;> rfl
set_option maxRecDepth 100000 in
set_option maxHeartbeats 1600000 in
theorem primes_any (w : World) : Calls Tryz.prog 118 #[.int .i64 64] w fun e w' => ∃ A c, e = .returned (.slice A 64 c) ∧ w'.ownsRow w.heap.size 86 1 (.slice A 64 c) 64 (u64V primes64) ∧ Below w.heap.size w w' := by
  go_enter Tryz.func118, Tryz.ntmps118
  go_wp2
  go_loopw [3, 4] (fun v p wr => ∃ (k c : Nat) (A : Option Addr), p = .int .u64 (k : Nat) ∧ v = .slice A (pl k).length c ∧ 2 ≤ k ∧ k ≤ 312 ∧ Hid (wr.ownsRow w.heap.size 86 1 (.slice A (pl k).length c) (pl k).length (u64V (pl k))) ∧ Hid (Below w.heap.size w wr)) (fun _ p _ => 312 - (intOf p).toNat)
  case atStart => exact ⟨2, 0, none, rfl, rfl, by omega, by omega, Lib.hid (show World.ownsRow w _ _ 1 (.slice none 0 0) 0 [] from ⟨rfl, Or.inl ⟨rfl, rfl⟩⟩), Lib.hid (Below.refl _ _)⟩
  case round =>
    obtain ⟨k, c, A, rfl, rfl, hk2, hk, HO, HB⟩ := hrel
    by_cases hlt : k ≤ 311
    · have hlen := pl_few hlt
      have HQ := Lib.hid (pl_lt k)
      have HY := Lib.hid (pl_yes hk2)
      have HN := Lib.hid (pl_no (p := k))
      generalize pl k = l at *
      obtain ⟨wo, rfl⟩ : ∃ wo : World, wo = wr := ⟨_, rfl⟩
      go_wp2
      go_loop [5, 16] (fun b i => ∃ j : Nat, i = .int .i64 (j : Nat) ∧ j ≤ l.length ∧ b = .bool ((l.take j).all (fun q => k % q != 0))) (fun _ i => l.length - (intOf i).toNat)
      case atStart => exact ⟨0, rfl, Nat.zero_le _, rfl⟩
      case round =>
        obtain ⟨j, rfl, hj, rfl⟩ := hrel
        by_cases hjl : j < l.length
        · obtain ⟨g, rfl, hg1, hg2, hcc⟩ := own_at HO.out (by omega)
          have hc := hcc j _ (u64V_get hjl)
          obtain ⟨hq1, hq2⟩ := HQ.out l[j] (List.getElem_mem hjl)
          have HT := Lib.hid (show (l.take (j + 1)).all (fun q => k % q != 0) = ((l.take j).all (fun q => k % q != 0) && k % l[j] != 0) by rw [List.take_succ_eq_append_getElem hjl, List.all_append]; simp)
          clear hcc
          generalize l[j] = q at *
          cases hb : (l.take j).all (fun q => k % q != 0) with
          | false =>
            have HB2 := Lib.hid hb
            clear hb
            go_wp2
            go_round
            case rel => exact ⟨j + 1, by go_num, by omega, by rw [HT.out, HB2.out]; rfl⟩
            case measure => simp [intOf]; omega
          | true =>
            have HB2 := Lib.hid hb
            clear hb
            go_wp2
            go_round
            case rel => exact ⟨j + 1, by go_num, by omega, by rw [HT.out, HB2.out, Bool.true_and, ← mod_ne]⟩
            case measure => simp [intOf]; omega
        · obtain rfl : j = l.length := by omega
          rw [List.take_length]
          cases hb : l.all (fun q => k % q != 0) with
          | false =>
            have HE := Lib.hid (HN.out hb)
            clear hb HN HY
            go_wp2
            go_roundw
            case rel => exact ⟨k + 1, c, A, by go_num, by rw [HE.out], by omega, by omega, by rw [HE.out]; exact HO, HB⟩
            case measure => simp [intOf]; omega
          | true =>
            have HE := Lib.hid (HY.out hb)
            clear hb HN HY
            have hown := HO.out
            have hsz := HB.out.size
            go_wp2_with (at_builtin; refine wpList_app1 rfl _ _ 130 rfl w.heap.size 86 Tryz.underlying130 infoU64 rfl (by decide) _ _ _ rfl hown _ rfl rfl (oneCell_int _ _) ?_ ?_ ?_ ?_; omega; omega; omega; intro g1 cap1 w1 hown' hgr hbw _)
            have HO' := Lib.hid hown'
            have HB' := Lib.hid (HB.out.trans hbw)
            clear hown hown' hgr hbw
            go_roundw
            case rel => exact ⟨k + 1, cap1, some ⟨g1, 0, none⟩, by go_num, by rw [HE.out, List.length_append]; rfl, by omega, by omega, by rw [HE.out, List.length_append]; exact Lib.hid (by have := HO'.out; simpa [u64V] using this), HB'⟩
            case measure => simp [intOf]; omega
    · obtain rfl : k = 312 := by omega
      have h64 : (pl 312).length = 64 := by rw [pl_all]; rfl
      rw [h64] at HO ⊢
      rw [pl_all] at HO
      go_wp2
      go_ret
      exact ⟨A, c, rfl, HO.out, HB.out⟩
/-- the bit that is tried in round k -/
def bK (k : Nat) : Nat := if k ≤ 36 then 2 ^ (36 - k) else 0
theorem bK_pos {k : Nat} (h : k < 37) : bK k = 2 ^ (36 - k) ∧ 0 < bK k ∧ bK k < 137438953472 ∧ bK k / 2 = bK (k + 1) := by
  have e : bK k = 2 ^ (36 - k) := by unfold bK; rw [if_pos (by omega)]
  refine ⟨e, ?_, ?_, ?_⟩
  · rw [e]; exact Nat.two_pow_pos _
  · rw [e]
    exact Nat.lt_of_lt_of_le (Nat.pow_lt_pow_right (a := 2) (n := 37) (by decide) (by omega)) (by decide)
  · rw [e]
    unfold bK
    split
    · next h2 => rw [show 36 - k = 36 - (k + 1) + 1 by omega, Nat.pow_succ]; omega
    · next h2 => rw [show 36 - k = 0 by omega]
theorem wrapU (n : Nat) (h : n < 18446744073709551616) : IntKind.u64.wrap (n : Int) = (n : Int) := by
  rw [show IntKind.u64.wrap (n : Int) = (n : Int) % 18446744073709551616 from rfl]
  omega
theorem mul64_any (x y : Nat) (w : World) (hx : x < 18446744073709551616) (hy : y < 18446744073709551616) : Calls Tryz.prog 141 #[.int .u64 x, .int .u64 y] w fun e w' => e = .returned (.tuple #[.int .u64 ((x * y / 18446744073709551616 : Nat) : Int), .int .u64 ((x * y % 18446744073709551616 : Nat) : Int)]) ∧ w = w' :=
  (Tryz.bits_Mul64 x y hx hy w).mono fun _e _w' ⟨h1, h2⟩ => ⟨h1, h2.symm⟩
set_option maxRecDepth 100000 in
set_option maxHeartbeats 1600000 in
theorem root_false (p : Nat) (w : World) (hp : p < 65536) : Calls Tryz.prog 119 #[.int .u64 p, .bool false] w fun e w' => e = .returned (.int .u32 (iW (rootF p false))) ∧ w = w' := by
  go_enter Tryz.func119, Tryz.ntmps119
  go_wp2
  go_loop [5, 6] (fun x b => ∃ k : Nat, k ≤ 37 ∧ x = .int .u64 (rootK p false k : Nat) ∧ b = .int .u64 (bK k : Nat)) (fun _ b => (intOf b).toNat)
  case atStart => exact ⟨0, by omega, rfl, rfl⟩
  case round =>
    obtain ⟨k, hk, rfl, rfl⟩ := hrel
    by_cases hlt : k < 37
    · obtain ⟨hb1, hb2, hb3, hb4⟩ := bK_pos hlt
      have hx := rootK_lt p false k
      have HS := Lib.hid (show rootK p false (k + 1) = if (rootK p false k ||| bK k) * (rootK p false k ||| bK k) / 18446744073709551616 < p ∨ (rootK p false k ||| bK k) * (rootK p false k ||| bK k) / 18446744073709551616 = p ∧ (rootK p false k ||| bK k) * (rootK p false k ||| bK k) % 18446744073709551616 = 0 then rootK p false k ||| bK k else rootK p false k by
        show rootN p false (rootK p false k) (2 ^ (36 - k)) = _
        rw [← hb1]
        unfold rootN
        simp only [Bool.false_eq_true, if_false, true_and])
      have HB4 := Lib.hid hb4
      have hor := u64_or_nat (rootK p false k) (bK k) (by omega) (by omega)
      have hy : rootK p false k ||| bK k < 2 ^ 37 := Nat.or_lt_two_pow hx (by omega)
      generalize bK k = b at *
      generalize rootK p false k = x at *
      generalize x ||| b = y at *
      have HM := Lib.hid fun W => mul64_any y y W (by omega) (by omega)
      clear hb1 hb4
      generalize y * y / 18446744073709551616 = hi at *
      generalize y * y % 18446744073709551616 = lo at *
      rcases (by omega : lo = 0 ∨ lo ≠ 0) with hlo | hlo
      all_goals
        first
          | have hq : ((lo : Int) == 0) = true := by simpa using hlo
          | have hq : ((lo : Int) == 0) = false := by simpa using hlo
        have HLO := Lib.hid hlo
        clear hlo
        go_wp2_with (go_at_call 141; refine (HM.out _).mono ?_; rintro e w' ⟨rfl, rfl⟩)
        all_goals
          have hlo := HLO.out
          go_round
          case rel => exact ⟨k + 1, by omega, by rw [HS.out]; first | rw [if_pos (by omega)] | rw [if_neg (by omega)], by rw [← HB4.out]; rfl⟩
          case measure => simp [intOf]; omega
    · obtain rfl : k = 37 := by omega
      have hb : bK 37 = 0 := rfl
      have hw := wrapW (rootK p false 37)
      have HF := Lib.hid (show rootF p false = BitVec.ofNat 32 (rootK p false 37) from rfl)
      rw [hb, ← HF.out] at *
      clear hb
      go_wp2
      go_ret
      exact ⟨ret_int rfl, rfl⟩
set_option maxRecDepth 100000 in
set_option maxHeartbeats 1600000 in
theorem root_true (p : Nat) (w : World) (hp : p < 65536) : Calls Tryz.prog 119 #[.int .u64 p, .bool true] w fun e w' => e = .returned (.int .u32 (iW (rootF p true))) ∧ w = w' := by
  go_enter Tryz.func119, Tryz.ntmps119
  go_wp2
  go_loop [5, 6] (fun x b => ∃ k : Nat, k ≤ 37 ∧ x = .int .u64 (rootK p true k : Nat) ∧ b = .int .u64 (bK k : Nat)) (fun _ b => (intOf b).toNat)
  case atStart => exact ⟨0, by omega, rfl, rfl⟩
  case round =>
    obtain ⟨k, hk, rfl, rfl⟩ := hrel
    by_cases hlt : k < 37
    · obtain ⟨hb1, hb2, hb3, hb4⟩ := bK_pos hlt
      have hx := rootK_lt p true k
      have HS := Lib.hid (show rootK p true (k + 1) = if (rootK p true k ||| bK k) * (rootK p true k ||| bK k) / 18446744073709551616 * (rootK p true k ||| bK k) + (rootK p true k ||| bK k) * (rootK p true k ||| bK k) % 18446744073709551616 * (rootK p true k ||| bK k) / 18446744073709551616 < 4294967296 * p then rootK p true k ||| bK k else rootK p true k by
        show rootN p true (rootK p true k) (2 ^ (36 - k)) = _
        rw [← hb1]
        unfold rootN
        simp only [if_true, reduceCtorEq, false_and, and_false, or_false])
      have HB4 := Lib.hid hb4
      have hor := u64_or_nat (rootK p true k) (bK k) (by omega) (by omega)
      have hy : rootK p true k ||| bK k < 2 ^ 37 := Nat.or_lt_two_pow hx (by omega)
      generalize bK k = b at *
      generalize rootK p true k = x at *
      generalize x ||| b = y at *
      have HM := Lib.hid fun W => mul64_any y y W (by omega) (by omega)
      have HM2 := Lib.hid fun W => mul64_any (y * y % 18446744073709551616) y W (Nat.mod_lt _ (by decide)) (by omega)
      have hhi : y * y / 18446744073709551616 * y < 140737488355328 := by
        have h1 : y * y < 2 ^ 37 * 2 ^ 37 := Nat.mul_lt_mul'' hy hy
        have h2 : y * y / 18446744073709551616 < 1024 := by omega
        have h3 : y * y / 18446744073709551616 * y < 1024 * 2 ^ 37 := Nat.mul_lt_mul'' h2 hy
        omega
      have hov : y * y % 18446744073709551616 * y / 18446744073709551616 < 137438953472 := by
        have h1 : y * y % 18446744073709551616 < 18446744073709551616 := Nat.mod_lt _ (by decide)
        have h2 : y * y % 18446744073709551616 * y < 18446744073709551616 * 2 ^ 37 := Nat.mul_lt_mul'' h1 hy
        omega
      clear hb1 hb4
      generalize y * y % 18446744073709551616 * y / 18446744073709551616 = over at *
      generalize y * y % 18446744073709551616 * y % 18446744073709551616 = ovl at *
      generalize y * y % 18446744073709551616 = lo at *
      generalize y * y / 18446744073709551616 = hi at *
      have hmu : IntKind.u64.wrap ((hi : Int) * (y : Int)) = ((hi * y : Nat) : Int) := by rw [show (hi : Int) * (y : Int) = ((hi * y : Nat) : Int) by simp, wrapU _ (by omega)]
      generalize hi * y = hy2 at *
      have hsh : IntKind.u64.wrap ((p : Int) * 4294967296) = ((4294967296 * p : Nat) : Int) := by rw [← wrapU (4294967296 * p) (by omega)]; congr 1; omega
      generalize 4294967296 * p = top at *
      rcases (by omega : hy2 + over < top ∨ top ≤ hy2 + over) with hc | hc
      all_goals
        go_wp2_with (go_at_call 141; first | ((with_reducible refine (HM2.out _).mono ?_); rintro e w' ⟨rfl, rfl⟩) | ((with_reducible refine (HM.out _).mono ?_); rintro e w' ⟨rfl, rfl⟩))
        all_goals
          go_round
          case rel => exact ⟨k + 1, by omega, by rw [HS.out]; first | rw [if_pos (by omega)] | rw [if_neg (by omega)], by rw [← HB4.out]; rfl⟩
          case measure => simp [intOf]; omega
    · obtain rfl : k = 37 := by omega
      have hb : bK 37 = 0 := rfl
      have hw := wrapW (rootK p true 37)
      have HF := Lib.hid (show rootF p true = BitVec.ofNat 32 (rootK p true 37) from rfl)
      rw [hb, ← HF.out] at *
      clear hb
      go_wp2
      go_ret
      exact ⟨ret_int rfl, rfl⟩
end Go.Proofs.YtpeepdkeicgkiaaGreatDoor
namespace Go.Proofs.YtpeepdkeicgkiaaGreatDoor
set_option linter.unusedVariables false
set_option linter.unusedSimpArgs false
set_option linter.unusedSectionVars false
open Go.RowKit

theorem rotF (x : W32) (n : Nat) (h0 : 0 < n) (hn : n < 32) : x <<< (32 - n) ||| x >>> n = x.rotateRight n := by
  rw [BitVec.rotateRight_def, Nat.mod_eq_of_lt hn, BitVec.or_comm]
theorem rot_and : ∀ n : Fin 32, 0 < n.val → bits BinOp.and IntKind.u64 (IntKind.u64.wrap (-(n.val : Int))) 31 = ((32 - n.val : Nat) : Int) := by decide +kernel
set_option maxRecDepth 100000 in
theorem rot_any (x : W32) (n : Nat) (w : World) (h0 : 0 < n) (hn : n < 32) : Calls Tryz.prog 142 #[.int .u32 (iW x), .int .i64 (-(n : Int))] w fun e w' => e = .returned (.int .u32 (iW (x.rotateRight n))) ∧ w = w' := by
  have ha := rot_and ⟨n, hn⟩ h0
  simp only at ha
  have HR := Lib.hid (rotF x n h0 hn)
  have h1 := fun W => shlW x (32 - n) (by omega) W
  have h2 := fun W => shrW x n hn W
  obtain ⟨m, hm⟩ : ∃ m : Nat, 32 - n = m := ⟨_, rfl⟩
  rw [hm] at ha h1 HR
  have hm2 : (n : Int) = 32 - (m : Int) := by omega
  rw [hm2] at h2
  have hm3 : m < 32 := by omega
  have HM := Lib.hid (show 32 - m = n by omega)
  clear hm hm2
  go_enter Tryz.func142, Tryz.ntmps142
  go_wp2
  go_ret
  refine ⟨ret_int ?_, rfl⟩
  have e1 : iW x * 2 ^ m % 4294967296 = (((x <<< m).toNat : Nat) : Int) := by
    rw [BitVec.toNat_shiftLeft, Nat.shiftLeft_eq, iW_nat x]
    have e : (2 : Int) ^ m = ((2 ^ m : Nat) : Int) := by simp
    rw [e]; rfl
  have e2 : iW x / 2 ^ (32 - m) = (((x >>> n).toNat : Nat) : Int) := by
    rw [BitVec.toNat_ushiftRight, Nat.shiftRight_eq_div_pow, iW_nat x, HM.out]
    have e : (2 : Int) ^ n = ((2 ^ n : Nat) : Int) := by simp
    rw [e]; rfl
  rw [e1, e2, u32_or_nat _ _ (BitVec.isLt _) (BitVec.isLt _), ← BitVec.toNat_or, HR.out]
  rfl
theorem rotG (n : Nat) (x : W32) (m : Int) (W : World) (hm : m = -(n : Int)) (h : (decide (0 < n) && decide (n < 32)) = true) : Calls Tryz.prog 142 #[.int .u32 (iW x), .int .i64 m] W fun e w' => e = .returned (.int .u32 (iW (x.rotateRight n))) ∧ w' = W := by
  subst hm
  simp only [Bool.and_eq_true, decide_eq_true_eq] at h
  exact (rot_any x n W h.1 h.2).mono fun _ _ h => ⟨h.1, h.2.symm⟩
theorem rot7 (x : W32) (W : World) : Calls Tryz.prog 142 #[.int .u32 (iW x), .int .i64 (-7)] W fun e w' => e = .returned (.int .u32 (iW (x.rotateRight 7))) ∧ w' = W := (rot_any x 7 W (by decide) (by decide)).mono fun _ _ h => ⟨h.1, h.2.symm⟩
theorem rot18 (x : W32) (W : World) : Calls Tryz.prog 142 #[.int .u32 (iW x), .int .i64 (-18)] W fun e w' => e = .returned (.int .u32 (iW (x.rotateRight 18))) ∧ w' = W := (rot_any x 18 W (by decide) (by decide)).mono fun _ _ h => ⟨h.1, h.2.symm⟩
theorem rot17 (x : W32) (W : World) : Calls Tryz.prog 142 #[.int .u32 (iW x), .int .i64 (-17)] W fun e w' => e = .returned (.int .u32 (iW (x.rotateRight 17))) ∧ w' = W := (rot_any x 17 W (by decide) (by decide)).mono fun _ _ h => ⟨h.1, h.2.symm⟩
theorem rot19 (x : W32) (W : World) : Calls Tryz.prog 142 #[.int .u32 (iW x), .int .i64 (-19)] W fun e w' => e = .returned (.int .u32 (iW (x.rotateRight 19))) ∧ w' = W := (rot_any x 19 W (by decide) (by decide)).mono fun _ _ h => ⟨h.1, h.2.symm⟩
theorem rot6 (x : W32) (W : World) : Calls Tryz.prog 142 #[.int .u32 (iW x), .int .i64 (-6)] W fun e w' => e = .returned (.int .u32 (iW (x.rotateRight 6))) ∧ w' = W := (rot_any x 6 W (by decide) (by decide)).mono fun _ _ h => ⟨h.1, h.2.symm⟩
theorem rot11 (x : W32) (W : World) : Calls Tryz.prog 142 #[.int .u32 (iW x), .int .i64 (-11)] W fun e w' => e = .returned (.int .u32 (iW (x.rotateRight 11))) ∧ w' = W := (rot_any x 11 W (by decide) (by decide)).mono fun _ _ h => ⟨h.1, h.2.symm⟩
theorem rot25 (x : W32) (W : World) : Calls Tryz.prog 142 #[.int .u32 (iW x), .int .i64 (-25)] W fun e w' => e = .returned (.int .u32 (iW (x.rotateRight 25))) ∧ w' = W := (rot_any x 25 W (by decide) (by decide)).mono fun _ _ h => ⟨h.1, h.2.symm⟩
theorem rot2 (x : W32) (W : World) : Calls Tryz.prog 142 #[.int .u32 (iW x), .int .i64 (-2)] W fun e w' => e = .returned (.int .u32 (iW (x.rotateRight 2))) ∧ w' = W := (rot_any x 2 W (by decide) (by decide)).mono fun _ _ h => ⟨h.1, h.2.symm⟩
theorem rot13 (x : W32) (W : World) : Calls Tryz.prog 142 #[.int .u32 (iW x), .int .i64 (-13)] W fun e w' => e = .returned (.int .u32 (iW (x.rotateRight 13))) ∧ w' = W := (rot_any x 13 W (by decide) (by decide)).mono fun _ _ h => ⟨h.1, h.2.symm⟩
theorem rot22 (x : W32) (W : World) : Calls Tryz.prog 142 #[.int .u32 (iW x), .int .i64 (-22)] W fun e w' => e = .returned (.int .u32 (iW (x.rotateRight 22))) ∧ w' = W := (rot_any x 22 W (by decide) (by decide)).mono fun _ _ h => ⟨h.1, h.2.symm⟩
/-- reads and quiet calls ahead of one write, the world behind the draw folded -/
theorem still_tail_drew {P : Program} {id : Nat} {Q : Exit → Act → World → Prop} {a : Act} {w : World} {l : List Oper} (n : Nat) (hm : P.follows .mixedOrders = true) (hB : Region.lexTailB .any l.toArray n = true)
    (h : wpStill P l.toArray w.drew (fun a' => wpList P l.toArray Q (l.drop n) a' w.drew) (l.take n) a) : (Code.region id l.toArray true).wp P Q a w := wp_region_still_tail n hm hB h
theorem still_of_quiet {P : Program} {ops : Array Oper} {w : World} {Q : Act → Prop} : ∀ (l : List Oper) (a : Act), wpQuiet P ops (fun W => W = w) Q l a → wpStill P ops w Q l a := by
  intro l
  induction l with
  | nil => exact fun a h => h
  | cons o rest ih =>
    intro a h
    unfold wpQuiet at h
    unfold wpStill
    split at h
    · next hw =>
      rw [if_pos hw]
      obtain ⟨v, h1, h2⟩ := h
      have h3 := h1 w rfl
      unfold Oper.quietAt at h3
      unfold Oper.still
      generalize (execOp a.eval o).run P w = r at *
      cases r with
      | ok n w' =>
        cases n <;> simp only [Oper.quietUpon] at h3 <;> simp only [Oper.stillUpon]
        case value u =>
          obtain ⟨e1, e2⟩ := h3
          exact ⟨e1, by rw [e2]; exact ih _ h2⟩
        case skip =>
          obtain ⟨e1, e2⟩ := h3
          exact ⟨e1, by rw [← e2]; exact ih _ h2⟩
        case enter f args =>
          obtain ⟨e1, hc⟩ := h3
          exact ⟨e1, v, hc, ih _ h2⟩
      | halt x w' => simp only [Oper.quietUpon] at h3
    · next hw =>
      rw [if_neg hw]
      exact ih _ h
/-- reads and quiet calls ahead of one write -/
theorem quiet_tail {P : Program} {id : Nat} {Q : Exit → Act → World → Prop} {a : Act} {w : World} {l : List Oper} (n : Nat) (hm : P.follows .mixedOrders = true) (hB : Region.lexTailB .any l.toArray n = true)
    (h : wpQuiet P l.toArray (fun W => W = w.drew) (fun a' => wpList P l.toArray Q (l.drop n) a' w.drew) (l.take n) a) : (Code.region id l.toArray true).wp P Q a w := wp_region_still_tail n hm hB (still_of_quiet _ _ h)
end Go.Proofs.YtpeepdkeicgkiaaGreatDoor
namespace Go.Proofs.YtpeepdkeicgkiaaGreatDoor
set_option linter.unusedVariables false
set_option linter.unusedSimpArgs false
set_option linter.unusedSectionVars false
open Go.RowKit

def bitsC (f : Nat → Bool) : Array Value := (Array.range 32).map fun i => .bool (f i)
@[simp] theorem bitsC_size (f : Nat → Bool) : (bitsC f).size = 32 := by simp [bitsC]
theorem bitsC_get (f : Nat → Bool) {i : Nat} (h : i < 32) : (bitsC f)[i]? = some (.bool (f i)) := by simp [bitsC, h]
theorem bitsC_set (f : Nat → Bool) (i : Nat) (b : Bool) : (bitsC f).setIfInBounds i (.bool b) = bitsC (fun j => if j = i then b else f j) := by
  apply Array.ext
  · simp
  · intro j h1 h2
    have hj : j < (bitsC f).size := by simpa using h2
    rw [Array.getElem_setIfInBounds hj]
    by_cases h : i = j
    · subst h; simp [bitsC]
    · have h' : ¬ j = i := fun e => h e.symm
      simp [bitsC, h, h']
theorem bitsC_ext {f g : Nat → Bool} (h : ∀ i, i < 32 → f i = g i) : bitsC f = bitsC g := by
  apply Array.ext
  · simp
  · intro i h1 h2
    have : i < 32 := by simpa using h1
    simp [bitsC, h i this]
theorem bitsC_one (f : Nat → Bool) : (bitsC f).all (·.oneCell') = true := by
  rw [Array.all_eq_true]
  intro i h
  simp [bitsC, Value.oneCell']
def wordC (x : W32) : Array Value := bitsC x.getMsbD
theorem sizeW : (Tryz.prog.info? 135).map (·.size) = some 32 := by kernel_rfl
theorem sizeWC (f : Nat → Bool) : (Tryz.prog.info? 135).map (·.size) = some (bitsC f).size := by rw [bitsC_size]; exact sizeW
def zC : Array Value := bitsC fun _ => false
theorem zC_lit : (#[.bool false, .bool false, .bool false, .bool false, .bool false, .bool false, .bool false, .bool false, .bool false, .bool false, .bool false, .bool false, .bool false, .bool false, .bool false, .bool false, .bool false, .bool false, .bool false, .bool false, .bool false, .bool false, .bool false, .bool false, .bool false, .bool false, .bool false, .bool false, .bool false, .bool false, .bool false, .bool false] : Array Value) = zC := by kernel_rfl
theorem Blk.row {w : World} {g : Nat} {t : TypeId} {cs cs' : Array Value} (h : Blk w g t cs) : Blk (w.setRow g cs') g t cs' := by
  unfold Blk at h ⊢
  exact setRow_heap w g _ _ t _ h
theorem Blk.rowFar {w : World} {g g' : Nat} {t : TypeId} {cs cs' : Array Value} (h : Blk w g t cs) (hg : g ≠ g') : Blk (w.setRow g' cs') g t cs := by
  unfold Blk at h ⊢
  rw [setRow_other w g' g _ (fun e => hg e)]
  exact h
theorem below_row {B : Nat} {a w : World} (h : Below B a w) {g : Nat} (hg : B ≤ g) (cs : Array Value) : Below B a (w.setRow g cs) :=
  ⟨h.os, h.tape, h.output, by rw [size_setRow]; exact h.size, fun k hk => (setRow_other w g k _ (fun e => by omega)).trans (h.block k hk)⟩
theorem of_bit (x k : Nat) (h : k < 32) : (BitVec.ofNat 32 x).getMsbD (31 - k) = decide (x / 2 ^ k % 2 = 1) := by
  rw [msb_get _ (by omega), BitVec.getLsbD_ofNat, show 31 - (31 - k) = k by omega, decide_eq_true h, Bool.true_and, Nat.testBit_eq_decide_div_mod_eq]
set_option maxRecDepth 100000 in
set_option maxHeartbeats 1600000 in
theorem dof_any (x : Nat) (w : World) (hx : x < 18446744073709551616) : Calls Tryz.prog 81 #[.int .u64 x] w fun e w' => e = .returned (.agg (wordC (BitVec.ofNat 32 x))) ∧ Below w.heap.size w w' := by
  have hz := zC_lit
  have HZ0 := Lib.hid (Blk.new w 135 zC)
  have HZ1 := Lib.hid (Blk.new (w.alloc (.cells zC 135)) 135 zC)
  rw [World.size_alloc] at HZ1
  have HB := Lib.hid (((Below.refl w.heap.size w).alloc (Nat.le_refl _) (.cells zC 135)).alloc (by simp) (.cells zC 135))
  have HZ2 := Lib.hid (HZ0.out.alloc (.cells zC 135))
  go_enter Tryz.func81, Tryz.ntmps81
  go_wp2_with (refine wpList_store_row rfl 135 _ _ rfl (w.heap.size + 1) zC rfl rfl 135 zC HZ1.out (sizeWC _) rfl (bitsC_one _) ?_)
  have HS := Lib.hid (show Blk (((w.alloc (.cells zC 135)).alloc (.cells zC 135)).setRow (w.heap.size + 1) zC) w.heap.size 135 zC ∧ Blk (((w.alloc (.cells zC 135)).alloc (.cells zC 135)).setRow (w.heap.size + 1) zC) (w.heap.size + 1) 135 zC ∧ Below w.heap.size w (((w.alloc (.cells zC 135)).alloc (.cells zC 135)).setRow (w.heap.size + 1) zC) from
    ⟨HZ2.out.rowFar (by omega), HZ1.out.row, below_row HB.out (by omega) _⟩)
  clear HZ0 HZ1 HZ2 HB hz
  go_loopw [0, 4] (fun xv iv wr => ∃ j : Nat, j ≤ 32 ∧ xv = .int .u64 ((x / 2 ^ (32 - j) : Nat) : Int) ∧ iv = .int .i64 ((j : Int) - 1) ∧ Hid (Blk wr w.heap.size 135 zC ∧ Blk wr (w.heap.size + 1) 135 (bitsC fun i => decide (j ≤ i) && (BitVec.ofNat 32 x).getMsbD i) ∧ Below w.heap.size w wr)) (fun _ iv _ => (intOf iv + 1).toNat)
  case atStart => exact ⟨32, Nat.le_refl _, by simp, rfl, Lib.hid ⟨HS.out.1, by
    have e : (bitsC fun i => decide (32 ≤ i) && (BitVec.ofNat 32 x).getMsbD i) = zC := bitsC_ext fun i hi => by rw [decide_eq_false (by omega)]; rfl
    rw [e]; exact HS.out.2.1, HS.out.2.2⟩⟩
  case round =>
    clear HS
    obtain ⟨j, hj, rfl, rfl, HS⟩ := hrel
    rcases j with _ | j
    · have hlt : ((0 : Nat) : Int) - 1 < 0 := by decide
      have e : (bitsC fun i => decide (0 ≤ i) && (BitVec.ofNat 32 x).getMsbD i) = wordC (BitVec.ofNat 32 x) := bitsC_ext fun i hi => by simp
      have HE := Lib.hid e
      clear e
      go_wp2_with (first
        | (refine wpList_load_row rfl 135 _ rfl (w.heap.size + 1) rfl 135 _ _ _ HS.out.2.1 Tryz.underlying135 rfl (sizeWC _) ?_)
        | (refine wpList_store_row rfl 135 _ _ rfl w.heap.size _ rfl rfl 135 zC HS.out.1 (sizeWC _) (by simp [zC]) (bitsC_one _) ?_))
      refine bodyPost_ret (results_cell_row Tryz.results81 _ _ w.heap.size 135 _ (0, 0) _ rfl HS.out.1.row Tryz.underlying135 rfl (sizeWC _)) rfl ?_
      exact ⟨by rw [HE.out], below_row HS.out.2.2 (Nat.le_refl _) _⟩
    · have ej : ((j + 1 : Nat) : Int) - 1 = (j : Int) := by omega
      have hj31 : j < 32 := by omega
      have HB := Lib.hid (of_bit x (31 - j) (by omega))
      rw [show 31 - (31 - j) = j by omega] at HB
      have HQ := Lib.hid (show x / 2 ^ (32 - (j + 1)) / 2 = x / 2 ^ (32 - j) by rw [Nat.div_div_eq_div_mul, ← Nat.pow_succ, show (32 - (j + 1)).succ = 32 - j by omega])
      have hq1 : x / 2 ^ (32 - (j + 1)) ≤ x := Nat.div_le_self _ _
      rw [show 31 - j = 32 - (j + 1) by omega] at HB
      generalize x / 2 ^ (32 - (j + 1)) = q at *
      obtain ⟨q2, hq2⟩ : ∃ q2, q2 = x / 2 ^ (32 - j) := ⟨_, rfl⟩
      rw [← hq2] at HQ
      have HQ2 := Lib.hid hq2
      clear hq2
      have e2 : (q : Int).tmod 2 = ((q % 2 : Nat) : Int) := rfl
      have ed : (q : Int).tdiv 2 = ((q / 2 : Nat) : Int) := rfl
      have hb : (((q % 2 : Nat) : Int) == 1) = (BitVec.ofNat 32 x).getMsbD j := by
        rw [HB.out, Bool.eq_iff_iff]; simp; omega
      have hc : wr.cell? ⟨w.heap.size + 1, j, none⟩ = some (.bool (decide (j + 1 ≤ j) && (BitVec.ofNat 32 x).getMsbD j)) := by rw [HS.out.2.1.cell, bitsC_get _ hj31]
      have hf := HS.out.2.1.frozen j
      have HN := Lib.hid (show Blk (wr.setCell ⟨w.heap.size + 1, j, none⟩ (.bool ((BitVec.ofNat 32 x).getMsbD j))) w.heap.size 135 zC ∧ Blk (wr.setCell ⟨w.heap.size + 1, j, none⟩ (.bool ((BitVec.ofNat 32 x).getMsbD j))) (w.heap.size + 1) 135 (bitsC fun i => decide (j ≤ i) && (BitVec.ofNat 32 x).getMsbD i) ∧ Below w.heap.size w (wr.setCell ⟨w.heap.size + 1, j, none⟩ (.bool ((BitVec.ofNat 32 x).getMsbD j))) from by
        refine ⟨HS.out.1.far (by simp) _, ?_, HS.out.2.2.setCell (Nat.le_succ _) _⟩
        have h := HS.out.2.1.set_ j (.bool ((BitVec.ofNat 32 x).getMsbD j))
        rw [bitsC_set] at h
        have e : (bitsC fun i => if i = j then (BitVec.ofNat 32 x).getMsbD j else decide (j + 1 ≤ i) && (BitVec.ofNat 32 x).getMsbD i) = bitsC fun i => decide (j ≤ i) && (BitVec.ofNat 32 x).getMsbD i := bitsC_ext fun i hi => by
          by_cases h : i = j
          · subst h; simp
          · rw [if_neg h]
            congr 1
            rw [Bool.eq_iff_iff, decide_eq_true_iff, decide_eq_true_iff]; omega
        rw [e] at h
        exact h)
      have hpos : ¬ (j : Int) < 0 := by omega
      have hq3 : q / 2 = q2 := HQ.out
      rw [hq3] at ed
      rw [ej]
      have hwq : IntKind.u64.wrap (q2 : Int) = (q2 : Int) := IntWalk.u64_in _ (by omega)
      clear HS HB HQ hq3
      generalize (BitVec.ofNat 32 x).getMsbD j = bt at *
      generalize (decide (j + 1 ≤ j) && bt) = old at *
      generalize q % 2 = qm at *
      go_wp2
      go_roundw
      case rel => exact ⟨j, by omega, by rw [← HQ2.out], rfl, HN⟩
      case measure => simp [intOf]
end Go.Proofs.YtpeepdkeicgkiaaGreatDoor
