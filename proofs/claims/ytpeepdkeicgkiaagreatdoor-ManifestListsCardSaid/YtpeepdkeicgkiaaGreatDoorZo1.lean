/- General lemmas over any program: a slice that the call itself makes, one element appended; bytes made a string. Numbers in groups of seven bits: the plain law. Numbers in groups of seven bits: walked. Numbers in groups of seven bits: the document's, walked. Numbers in groups of seven bits: the document's reading, walked. -/
import Derived.Test.YtpeepdkeicgkiaaGreatDoorRows
import Derived.WalkKit
import Derived.WalkSpells
import Derived.WalkLawsBesides
import Derived.LoopTactic
import Derived.Outline
import Derived.Deep.QuietTactic
import Derived.BigQuiet
import Derived.Lib.Hide
import Derived.Laws.BytesArg
import Derived.Maps.AppendAt
import Derived.Deep.RegionWith
import Derived.Lib.Split
namespace Go.Proofs.YtpeepdkeicgkiaaGreatDoor
set_option linter.unusedVariables false
set_option linter.unusedSimpArgs false
set_option linter.unusedSectionVars false
open Go.RowKit

def bytesV (l : List UInt8) : List Value := l.map fun c => .int .u8 c.toNat
theorem bytesV_len (l : List UInt8) : (bytesV l).length = l.length := by simp [bytesV]
theorem bytesV_app (l m : List UInt8) : bytesV (l ++ m) = bytesV l ++ bytesV m := by simp [bytesV]

/-- append(v, x) of one element: v is nil or the call's own; the source is the one-element block just made. -/
theorem wpList_app1 {P : Program} {w : World} {ops : Array Oper} {rest : List Oper} {o : Oper} {a : Act} {Q : Exit → Act → World → Prop} (hgd : o.guard = none) (s x : Operand) (t : TypeId)
    (ho : o.op = .call { callee := .builtin .append, args := #[s, x], argTypes := #[t, t] })
    (base : Nat) (e : TypeId) {z : Value} {size bytes : Nat} (ht : P.underlying t = some (.slice e))
    (hinfo : (P.info? e).map (fun i => (i.zero, i.size, i.bytes)) = some (some z, size, bytes)) (hzs : z.cells.size = size) (hsz : 0 < size)
    (v : Value) (n : Nat) (xs : List Value) (hs : a.eval s = v) (hown : w.ownsRow base e size v n xs)
    (cs : Array Value) (hx : a.eval x = .slice (some ⟨w.heap.size, 0, none⟩) 1 1) (hl : cs.size = size) (h1 : ∀ u ∈ cs.toList, u.oneCell' = true)
    (hbytes : (n + 1) * bytes ≤ 140737488355328) (h63 : n + 1 ≤ 140737488355328) (hbase : base ≤ w.heap.size)
    (h : ∀ g cap w', w'.ownsRow base e size (.slice (some ⟨g, 0, none⟩) (n + 1) cap) (n + 1) (xs ++ cs.toList) → w.grownBy w' v.ownBlock → Below base w w' → (v.ownBlock = some g ∨ g = w.heap.size + 1) → wpList P ops Q rest (a.put o.dst (.slice (some ⟨g, 0, none⟩) (n + 1) cap)) w') :
    wpList P ops Q (o :: rest) a (w.alloc (.cells cs e)) := by
  obtain ⟨i0, hi, hz0, hz1, hz2⟩ := info_parts hinfo
  refine wpList_append_own_at _ hgd s x t ho base e i0 z size bytes ht hi hz0 hz1 hz2 hzs hsz v n xs hs (hown.alloc _) ⟨w.heap.size, 0, none⟩ 1 1 cs.toList hx (by simp [hl]) ?_ h1 (by unfold maxLen; omega) hbytes (by simp; omega) ?_
  · intro j u hj
    have hadd : (⟨w.heap.size, 0, none⟩ : Addr).add j = ⟨w.heap.size, j, none⟩ := by unfold Addr.add; split <;> simp_all
    rw [hadd, World.cell?_alloc_at _ _ _ _ rfl]
    simpa using hj
  · intro v' w' hown' hg _ hloc
    have hgr : w.grownBy w' v.ownBlock := (World.grownBy_alloc w _ _).trans hg
    obtain ⟨g', cap', rfl⟩ : ∃ g cap, v' = .slice (some ⟨g, 0, none⟩) (n + 1) cap := by
      rcases hown'.2 with ⟨_, h0⟩ | ⟨g, cap, _, hv, _⟩
      · omega
      · exact ⟨g, cap, hv⟩
    refine h g' cap' w' hown' hgr ?_ (by
      rcases hloc with e | e
      · exact Or.inl e.symm
      · simp [Value.ownBlock] at e; exact Or.inr e)
    refine (Below.refl base w).grown hgr hbase ?_
    intro k hk
    obtain ⟨_, hv | ⟨g, cap, cur, hv, hg', _⟩⟩ := hown
    · rw [hv.1] at hk; simp [Value.ownBlock] at hk
    · rw [hv] at hk; simp [Value.ownBlock] at hk; omega

theorem oneCell_int (k : IntKind) (n : Int) : ∀ u ∈ (#[Value.int k n] : Array Value).toList, u.oneCell' = true := by simp [Value.oneCell']
theorem oneCell_string (s : ByteArray) : ∀ u ∈ (#[Value.string s] : Array Value).toList, u.oneCell' = true := by simp [Value.oneCell']

theorem below_grown {B : Nat} {a w w' : World} {e : TypeId} {size n : Nat} {v : Value} {xs : List Value} (hb : Below B a w) (hB : B ≤ w.heap.size)
    (hown : w.ownsRow B e size v n xs) (hg : w.grownBy w' v.ownBlock) : Below B a w' := by
  refine hb.grown hg hB ?_
  intro k hk
  obtain ⟨_, hv | ⟨g, cap, cur, hv, hg', _⟩⟩ := hown
  · rw [hv.1] at hk; simp [Value.ownBlock] at hk
  · rw [hv] at hk; simp [Value.ownBlock] at hk; omega

/-- A cell of an owned row. -/
theorem own_cell {w : World} {base : Nat} {e : TypeId} {n : Nat} {a : Addr} {len cap : Nat} {xs : List Value} (hown : w.ownsRow base e 1 (.slice (some a) len cap) n xs) {j : Nat} {u : Value} (hj : xs[j]? = some u) :
    w.cell? (a.add j) = some u := by
  obtain ⟨hl, hv | ⟨g, cap', cur, hv, hg', hheap, h4, h5, h6, h7⟩⟩ := hown
  · simp at hv
  · simp at hv
    obtain ⟨rfl, rfl, rfl⟩ := hv
    have hadd : (⟨g, 0, none⟩ : Addr).add j = ⟨g, j, none⟩ := by unfold Addr.add; split <;> simp_all
    rw [hadd]
    simp only [World.cell?, hheap]
    rw [← h7] at hj
    have hj' : j < len * 1 := by
      have := (List.getElem?_eq_some_iff.1 hj).1
      simp at this; omega
    rw [List.getElem?_take, if_pos hj'] at hj
    simpa using hj

/-- string(v), v the call's own row of bytes. -/
theorem run_convert_own {P : Program} {w : World} {base : Nat} {v : Value} {n : Nat} {l : List UInt8} (src dst e : TypeId) (hs : P.underlying src = some (.slice e)) (he : P.underlying e = some (.int .u8)) (hd : P.underlying dst = some .string)
    (hown : w.ownsRow base e 1 v n (bytesV l)) : (convert src dst v).run P w = .ok (.string ⟨l.toArray⟩) w := by
  have hlen := hown.1
  simp [bytesV_len] at hlen
  have hc := fun (a : Addr) (len cap : Nat) (h : w.ownsRow base e 1 (.slice (some a) len cap) n (bytesV l)) (j : Nat) (hj : j < l.length) =>
    own_cell (j := j) (u := .int .u8 (l[j].toNat : Int)) h (by simp [bytesV, List.getElem?_eq_getElem hj])
  rcases hown.2 with hv | ⟨g, cap, cur, hv, _⟩
  · obtain ⟨rfl, rfl⟩ := hv
    have : l = [] := List.length_eq_zero_iff.1 hlen
    subst this
    exact run_convert_bytes_nil w src e hs he 0 0 dst hd
  · subst hv
    subst hlen
    exact run_convert_bytes_back w src dst e ⟨g, 0, none⟩ cap l hs he hd (fun j hj => hc _ _ _ hown j hj)

/-- []byte(s): a new row with s's bytes. -/
theorem bytes_of_string {P : Program} (w : World) (src dst e : TypeId) (s : ByteArray) (hs : P.underlying src = some .string) (hd : P.underlying dst = some (.slice e)) (he : P.underlying e = some (.int .u8)) :
    ∃ cap w1, (convert src dst (.string s)).run P w = .ok (.slice (some ⟨w.heap.size, 0, none⟩) s.size cap) w1 ∧ Below w.heap.size w w1 ∧ w1.heap.size = w.heap.size + 1 ∧
      ∀ j (hj : j < s.size), w1.cell? ⟨w.heap.size, j, none⟩ = some (.int .u8 (s[j].toNat : Int)) := by
  refine ⟨_, _, run_bytes_of_string w src dst e s hs hd he, ((Below.refl _ w).drew).alloc (Nat.le_refl _) _, by simp, ?_⟩
  intro j hj
  have h := bytesRow_at s (grownCap w s.size 0 e) j hj
  have hh : ∀ (C : Array Value) (m : Nat × Nat), (w.drew.alloc (.cells C e m)).cell? ⟨w.heap.size, j, none⟩ = C[j]? := by
    intro C m
    have : (w.drew.alloc (.cells C e m)).heap[w.heap.size]? = some (.cells C e m) := by
      show (w.heap.push (.cells C e m))[w.heap.size]? = _
      simp
    unfold World.cell?
    simp only [this]
    rfl
  rw [hh, h]
  rfl

theorem ba_take (s : ByteArray) (k : Nat) (h : k < s.size) : s.data.toList.take (k + 1) = s.data.toList.take k ++ [s[k]] := by
  rw [List.take_succ_eq_append_getElem (by simpa using h)]; rfl
theorem ba_mem (s : ByteArray) (k : Nat) (h : k < s.size) : s[k] ∈ s.data.toList := by
  have : s[k] = s.data.toList[k]'(by simpa using h) := rfl
  rw [this]; exact List.getElem_mem _
theorem ba_all_snoc {p : UInt8 → Bool} (s : ByteArray) (k : Nat) (h : k < s.size) (hp : (s.data.toList.take k).all p = true) (hc : p s[k] = true) : (s.data.toList.take (k + 1)).all p = true := by
  rw [ba_take s k h, List.all_append, hp]; simp [hc]
theorem ba_all_false {p : UInt8 → Bool} (s : ByteArray) (k : Nat) (h : k < s.size) (hc : p s[k] = false) : s.data.toList.all p = false := by
  rw [List.all_eq_false]; exact ⟨s[k], ba_mem s k h, by simp [hc]⟩
theorem ba_take_all (s : ByteArray) : s.data.toList.take s.size = s.data.toList := List.take_of_length_le (by simp)
theorem ba_toList (s : ByteArray) : s.toList = s.data.toList := by
  exact ByteArray.toList_eq s
theorem toList_isEmpty (s : ByteArray) : s.toList.isEmpty = decide (s.size = 0) := by
  rw [ba_toList, Bool.eq_iff_iff]
  simp [← Array.size_eq_zero_iff]
theorem ret_bool {a b : Bool} (h : a = b) : Ending.returned (.bool a) = .returned (.bool b) := by rw [h]
theorem ret_int {k : IntKind} {a b : Int} (h : a = b) : Ending.returned (.int k a) = .returned (.int k b) := by rw [h]
theorem ret_str {a b : ByteArray} (h : a = b) : Ending.returned (.string a) = .returned (.string b) := by rw [h]

end Go.Proofs.YtpeepdkeicgkiaaGreatDoor
namespace Go.Proofs.YtpeepdkeicgkiaaGreatDoor
set_option linter.unusedVariables false
set_option linter.unusedSimpArgs false
set_option linter.unusedSectionVars false
open Go.RowKit

/-- a number in groups of seven bits, the lowest first -/
def varF : Nat → Nat → List UInt8
  | 0, x => [UInt8.ofNat (x % 128)]
  | f + 1, x => if x < 128 then [UInt8.ofNat x] else UInt8.ofNat (x % 128 + 128) :: varF f (x / 128)
def varL (x : Nat) : List UInt8 := varF 10 x
theorem varF_len : ∀ f x, 1 ≤ (varF f x).length ∧ (varF f x).length ≤ f + 1
  | 0, x => by simp [varF]
  | f + 1, x => by
    have := varF_len f (x / 128)
    simp only [varF]
    split <;> simp <;> omega
theorem pow128 (f : Nat) : 128 ^ (f + 1) = 128 * 128 ^ f := by rw [Nat.pow_succ, Nat.mul_comm]
theorem varF_fuel : ∀ f g x, x < 128 ^ (f + 1) → x < 128 ^ (g + 1) → varF f x = varF g x
  | 0, 0, x, _, _ => rfl
  | 0, g + 1, x, h, _ => by
    have h1 : x < 128 := by simpa using h
    simp only [varF]
    rw [if_pos h1, Nat.mod_eq_of_lt h1]
  | f + 1, 0, x, _, h => by
    have h1 : x < 128 := by simpa using h
    simp only [varF]
    rw [if_pos h1, Nat.mod_eq_of_lt h1]
  | f + 1, g + 1, x, h1, h2 => by
    simp only [varF]
    split
    · rfl
    · rw [varF_fuel f g (x / 128)]
      · rw [Nat.div_lt_iff_lt_mul (by decide), Nat.mul_comm, ← pow128]; exact h1
      · rw [Nat.div_lt_iff_lt_mul (by decide), Nat.mul_comm, ← pow128]; exact h2
theorem varF_small {f x : Nat} (h : x < 128) : varF f x = [UInt8.ofNat x] := by
  cases f with
  | zero => simp only [varF]; rw [Nat.mod_eq_of_lt h]
  | succ f => simp only [varF]; rw [if_pos h]
theorem varF_great {f x : Nat} (h : ¬ x < 128) : varF (f + 1) x = UInt8.ofNat (x % 128 + 128) :: varF f (x / 128) := by
  simp only [varF]; rw [if_neg h]

/-- the number at the front -/
def unv : Nat → Nat → Nat → List UInt8 → Nat × Nat
  | 0, _, _, _ => (0, 0)
  | _ + 1, _, _, [] => (0, 0)
  | f + 1, i, a, c :: r => if (i = 9 ∧ 1 < c.toNat) ∨ (0 < i ∧ c.toNat = 0) then (0, 0) else if c.toNat < 128 then (a + c.toNat * 128 ^ i, i + 1) else unv f (i + 1) (a + c.toNat % 128 * 128 ^ i) r
def unvarL (l : List UInt8) : Nat × Nat := unv 10 0 0 l

theorem u8_small {x : Nat} (h : x < 256) : (UInt8.ofNat x).toNat = x := by
  simp only [UInt8.toNat_ofNat']
  exact Nat.mod_eq_of_lt h
/-- 2 ^ (64 - 7 * i) -/
def room : Nat → Nat
  | 0 => 18446744073709551616
  | i + 1 => room i / 128
theorem room9 : room 9 = 2 := by decide
theorem room_le : ∀ i, i ≤ 9 → 128 ^ i * room i ≤ 18446744073709551616 := by decide
theorem room_pos : ∀ i, i ≤ 9 → 1 ≤ room i := by decide
theorem room_succ : ∀ i, i < 9 → room i = 128 * room (i + 1) := by decide
theorem mul_step (y i : Nat) : y % 128 * 128 ^ i + y / 128 * 128 ^ (i + 1) = y * 128 ^ i := by
  have h := Nat.div_add_mod y 128
  rw [pow128]
  have e : y / 128 * (128 * 128 ^ i) = 128 * (y / 128) * 128 ^ i := by
    rw [← Nat.mul_assoc, Nat.mul_comm (y / 128) 128]
  rw [e, ← Nat.add_mul, Nat.add_comm, h]
theorem room_div {i y : Nat} (hi : i < 9) (h : y < room i) : y / 128 < room (i + 1) := by
  have := room_succ i hi
  omega
/-- what was written is read -/
theorem unv_var : ∀ (f i a y : Nat) (r : List UInt8), i + f = 9 → y < room i → (0 < i → y ≠ 0) → unv (f + 1) i a (varF f y ++ r) = (a + y * 128 ^ i, i + (varF f y).length)
  | 0, i, a, y, r, hi, hy, h0 => by
    obtain rfl : i = 9 := by omega
    have hy2 : y < 2 := by rw [room9] at hy; exact hy
    have hc := u8_small (x := y) (by omega)
    rw [varF_small (by omega)]
    simp only [List.cons_append, List.nil_append, unv]
    rw [hc, if_neg (by omega), if_pos (by omega)]
    rfl
  | f + 1, i, a, y, r, hi, hy, h0 => by
    by_cases h : y < 128
    · have hc := u8_small (x := y) (by omega)
      rw [varF_small h]
      simp only [List.cons_append, List.nil_append, unv]
      rw [hc, if_neg (by omega), if_pos h]
      rfl
    · have hc := u8_small (x := y % 128 + 128) (by omega)
      rw [varF_great h]
      simp only [List.cons_append]
      rw [unv, hc, if_neg (by omega), if_neg (by omega)]
      rw [unv_var f (i + 1) _ (y / 128) r (by omega) (room_div (by omega) hy) (by omega)]
      have := mul_step y i
      rw [show (y % 128 + 128) % 128 = y % 128 by omega, Nat.add_assoc, this, List.length_cons]
      congr 1
      omega
theorem room10 : (18446744073709551616 : Nat) < 128 ^ 10 := by decide
theorem varL_9 {x : Nat} (h : x < 18446744073709551616) : varL x = varF 9 x := varF_fuel 10 9 x (Nat.lt_trans h (by decide)) (Nat.lt_trans h room10)
theorem unvar_var (x : Nat) (r : List UInt8) (h : x < 18446744073709551616) : unvarL (varL x ++ r) = (x, (varL x).length) := by
  have := unv_var 9 0 0 x r rfl h (by omega)
  rw [varL_9 h]
  unfold unvarL
  rw [this]
  simp
/-- what was read was written so -/
theorem unv_back : ∀ (f i a : Nat) (l : List UInt8) (x n : Nat), i + f = 9 → unv (f + 1) i a l = (x, n) → n ≠ 0 → ∃ y, x = a + y * 128 ^ i ∧ y < room i ∧ n = i + (varF f y).length ∧ ∃ r, l = varF f y ++ r
  | f, i, a, [], x, n, _, h, hn => by
    simp only [unv, Prod.mk.injEq] at h
    exact absurd h.2.symm hn
  | f, i, a, c :: r, x, n, hi, h, hn => by
    simp only [unv] at h
    split at h
    · simp only [Prod.mk.injEq] at h; exact absurd h.2.symm hn
    · next g =>
      have hc2 : UInt8.ofNat c.toNat = c := by simp
      split at h
      · next hc =>
        simp only [Prod.mk.injEq] at h
        refine ⟨c.toNat, h.1.symm, ?_, by rw [varF_small hc]; exact h.2.symm, r, by rw [varF_small hc, hc2]; rfl⟩
        by_cases h9 : i = 9
        · subst h9; rw [room9]; omega
        · have := room_succ i (by omega)
          have := room_pos (i + 1) (by omega)
          omega
      · next hc =>
        cases f with
        | zero =>
          have h9 : i = 9 := by omega
          exact absurd (Or.inl ⟨h9, by omega⟩) g
        | succ f =>
          obtain ⟨y, e1, e2, e3, t, e4⟩ := unv_back f (i + 1) _ r x n (by omega) h hn
          have hlt := c.toNat_lt
          have hr := room_succ i (by omega)
          have hy0 : y ≠ 0 := by
            intro e
            subst e
            rw [varF_small (by decide)] at e4 e3
            subst e4
            -- the group behind would be a nought
            cases f with
            | zero => simp [unv] at h; exact hn h.2.symm
            | succ f => simp [unv] at h; exact hn h.2.symm
          have hd : (c.toNat % 128 + 128 * y) / 128 = y := by omega
          have hm : (c.toNat % 128 + 128 * y) % 128 = c.toNat % 128 := by omega
          refine ⟨c.toNat % 128 + 128 * y, ?_, by omega, ?_, t, ?_⟩
          · have := mul_step (c.toNat % 128 + 128 * y) i
            rw [hd, hm] at this
            rw [e1, ← this, Nat.add_assoc]
          · rw [varF_great (by omega), hd, List.length_cons, e3]; omega
          · rw [varF_great (by omega), hd, hm, e4, show c.toNat % 128 + 128 = c.toNat by omega, hc2]; rfl
theorem unvar_back {l : List UInt8} {x n : Nat} (h : unvarL l = (x, n)) (hn : n ≠ 0) : x < 18446744073709551616 ∧ n = (varL x).length ∧ l.take n = varL x ∧ n ≤ l.length ∧ n ≤ 10 := by
  obtain ⟨y, e1, e2, e3, r, e4⟩ := unv_back 9 0 0 l x n rfl h hn
  obtain rfl : x = y := by omega
  have hv := varL_9 (x := x) e2
  rw [← hv] at e3 e4
  have := varF_len 9 x
  rw [← hv] at this
  refine ⟨e2, by omega, ?_, by rw [e4]; simp; omega, by omega⟩
  rw [e4, e3, Nat.zero_add, List.take_left]
theorem unvar_le (l : List UInt8) : (unvarL l).2 ≤ l.length ∧ (unvarL l).2 ≤ 10 ∧ (unvarL l).1 < 18446744073709551616 := by
  by_cases h : (unvarL l).2 = 0
  · refine ⟨by omega, by omega, ?_⟩
    have key : ∀ f i a (l : List UInt8), (unv f i a l).2 = 0 → (unv f i a l).1 = 0 := by
      intro f
      induction f with
      | zero => intro i a l _; rfl
      | succ f ih =>
        intro i a l h
        cases l with
        | nil => rfl
        | cons c r =>
          simp only [unv] at h ⊢
          split
          · rfl
          · next g =>
            rw [if_neg g] at h
            split
            · next hc => rw [if_pos hc] at h; simp at h
            · next hc => rw [if_neg hc] at h; exact ih _ _ _ h
    have e : (unvarL l).1 = 0 := key _ _ _ _ h
    rw [e]; decide
  · have := unvar_back (l := l) rfl h
    exact ⟨this.2.2.2.1, this.2.2.2.2, this.1⟩

/-- the sum of groups -/
def sumV : List UInt8 → Nat
  | [] => 0
  | c :: r => c.toNat % 128 + 128 * sumV r
theorem sumV_snoc (l : List UInt8) (c : UInt8) : sumV (l ++ [c]) = sumV l + c.toNat % 128 * 128 ^ l.length := by
  induction l with
  | nil => simp [sumV]
  | cons d r ih =>
    simp only [List.cons_append, sumV, List.length_cons]
    rw [ih, Nat.mul_add, pow128, Nat.add_assoc]
    congr 2
    rw [← Nat.mul_assoc, ← Nat.mul_assoc, Nat.mul_comm 128]
theorem sumV_var : ∀ f x, x < 128 ^ (f + 1) → sumV (varF f x) = x
  | 0, x, h => by
    have h1 : x < 128 := by simpa using h
    have := u8_small (x := x) (by omega)
    rw [varF_small h1]
    simp only [sumV]
    omega
  | f + 1, x, h => by
    by_cases h1 : x < 128
    · have := u8_small (x := x) (by omega)
      rw [varF_small h1]
      simp only [sumV]
      omega
    · have := u8_small (x := x % 128 + 128) (by omega)
      rw [varF_great h1]
      simp only [sumV]
      rw [sumV_var f (x / 128) (by rw [Nat.div_lt_iff_lt_mul (by decide), Nat.mul_comm, ← pow128]; exact h)]
      omega
/-- the document's test at a length -/
theorem try_hit {l : List UInt8} {n y : Nat} (hy : y < 18446744073709551616) (h : varL y = l.take n) (hn : n ≤ l.length) : unvarL l = (y, n) := by
  have e : l = varL y ++ l.drop n := by rw [h, List.take_append_drop]
  have := unvar_var y (l.drop n) hy
  rw [← e, h] at this
  rw [this]
  simp
  omega
theorem try_miss {l : List UInt8} {n : Nat} (h : varL (sumV (l.take n) % 18446744073709551616) ≠ l.take n) (hn : n ≠ 0) : (unvarL l).2 ≠ n := by
  intro e
  obtain ⟨h1, h2, h3, _⟩ := unvar_back (l := l) (x := (unvarL l).1) (n := n) (by rw [← e]) hn
  have hs : sumV (l.take n) = (unvarL l).1 := by
    rw [h3, varL_9 h1]
    exact sumV_var 9 _ (Nat.lt_trans h1 room10)
  rw [hs, Nat.mod_eq_of_lt h1, h3] at h
  exact h rfl
end Go.Proofs.YtpeepdkeicgkiaaGreatDoor
namespace Go.Proofs.YtpeepdkeicgkiaaGreatDoor
set_option linter.unusedVariables false
set_option linter.unusedSimpArgs false
set_option linter.unusedSectionVars false
open Go.RowKit

theorem infoB : (Tryz.prog.info? 5).map (fun i => (i.zero, i.size, i.bytes)) = some (some (.int .u8 0), 1, 1) := by kernel_rfl
theorem or128 : ∀ n : Nat, n < 256 → bits BinOp.or IntKind.u8 (n : Int) 128 = ((n % 128 + 128 : Nat) : Int) := by decide +kernel
set_option maxRecDepth 100000 in
set_option maxHeartbeats 800000 in
theorem var_any (x : Nat) (w : World) (hx : x < 18446744073709551616) :
    Calls Tryz.prog 40 #[.int .u64 x] w fun e w' => e = .returned (.string ⟨(varL x).toArray⟩) ∧ Below w.heap.size w w' := by
  have h0 : x < 128 ^ (10 + 1) := Nat.lt_trans hx (by decide)
  have HX := Lib.hid hx
  clear hx
  go_enter Tryz.func40, Tryz.ntmps40
  go_wp2
  go_loopw [0, 3] (fun y v wr => ∃ (z f : Nat) (l : List UInt8) (vv : Value), vv = v ∧ y = .int .u64 (z : Nat) ∧ z ≤ x ∧ wr.ownsRow w.heap.size 5 1 v l.length (bytesV l) ∧ Below w.heap.size w wr ∧ l ++ varF f z = varL x ∧ l.length + f ≤ 10 ∧ z < 128 ^ (f + 1)) (fun y _ _ => (intOf y).toNat)
  case atStart => exact ⟨x, 10, [], _, rfl, rfl, Nat.le_refl _, ⟨rfl, Or.inl ⟨rfl, rfl⟩⟩, Below.refl _ _, rfl, by simp, h0⟩
  case round =>
    obtain ⟨z, f, l, v, rfl, rfl, hzx, hown, hb, hn, hlf, hz⟩ := hrel
    have HN := Lib.hid hn
    have HZ := Lib.hid hz
    have HZLE := Lib.hid hzx
    have HZX := Lib.hid (Nat.lt_of_le_of_lt hzx HX.out)
    have hsz := hb.size
    have hll : l.length ≤ 10 := by omega
    clear hn hz hzx
    by_cases h : z < 128
    · have h1 : ¬ (128 : Int) ≤ (z : Int) := by omega
      have hw8 : IntKind.u8.wrap (z : Int) = (z : Int) := IntWalk.u8_in _ (by omega)
      have hz8 := u8_small (x := z) (by omega)
      have HB1 := Lib.hid (show bytesV (l ++ [UInt8.ofNat z]) = bytesV l ++ [.int .u8 (z : Int)] by rw [bytesV_app]; simp only [bytesV, List.map_cons, List.map_nil]; rw [hz8])
      have HV := Lib.hid (show l ++ [UInt8.ofNat z] = varL x by rw [← varF_small (f := f) h]; exact HN.out)
      clear h hz8
      go_wp2_with (at_builtin; refine wpList_app1 rfl _ _ 76 rfl w.heap.size 5 Tryz.underlying76 infoB rfl (by decide) _ _ _ rfl hown _ rfl rfl (oneCell_int _ _) ?_ ?_ ?_ ?_; omega; omega; omega; intro g1 cap1 w5 hown' hgr hbw _; have hcv := run_convert_own (l := l ++ [UInt8.ofNat z]) 76 9 5 Tryz.underlying76 Tryz.underlying5 Tryz.underlying9 (by rw [HB1.out]; exact hown'))
      go_ret
      exact ⟨ret_str (by rw [HV.out]), hb.trans hbw⟩
    · have h1 : (128 : Int) ≤ (z : Int) := by omega
      obtain ⟨f, rfl⟩ : ∃ g, f = g + 1 := by
        cases f with
        | zero => have := HZ.out; simp at this; omega
        | succ g => exact ⟨g, rfl⟩
      have hw8 : IntKind.u8.wrap (z : Int) = (z : Int) % 256 := by rw [IntKind.wrap_u8]
      have hor : bits BinOp.or IntKind.u8 ((z : Int) % 256) 128 = (z : Int) % 128 + 128 := by
        have := or128 (z % 256) (by omega)
        rw [show ((z % 256 : Nat) : Int) = (z : Int) % 256 by omega] at this
        omega
      have hz8 := u8_small (x := z % 128 + 128) (by omega)
      have HB1 := Lib.hid (show bytesV (l ++ [UInt8.ofNat (z % 128 + 128)]) = bytesV l ++ [.int .u8 ((z : Int) % 128 + 128)] by rw [bytesV_app]; simp only [bytesV, List.map_cons, List.map_nil]; rw [hz8, show ((z % 128 + 128 : Nat) : Int) = (z : Int) % 128 + 128 by omega])
      have HV := Lib.hid (show (l ++ [UInt8.ofNat (z % 128 + 128)]) ++ varF f (z / 128) = varL x by rw [← HN.out, varF_great h, List.append_assoc]; rfl)
      clear h hz8
      go_wp2_with (at_builtin; refine wpList_app1 rfl _ _ 76 rfl w.heap.size 5 Tryz.underlying76 infoB rfl (by decide) _ _ _ rfl hown _ rfl rfl (oneCell_int _ _) ?_ ?_ ?_ ?_; omega; omega; omega; intro g1 cap1 w5 hown' hgr hbw _)
      go_roundw
      case rel =>
        refine ⟨z / 128, f, l ++ [UInt8.ofNat (z % 128 + 128)], _, rfl, ?_, ?_, ?_, hb.trans hbw, HV.out, ?_, ?_⟩
        · rw [show ((z / 128 : Nat) : Int) = (z : Int) / 128 by omega]
        · exact Nat.le_trans (Nat.div_le_self _ _) HZLE.out
        · rw [HB1.out]; simpa using hown'
        · simp; omega
        · rw [Nat.div_lt_iff_lt_mul (by decide), Nat.mul_comm, ← pow128]; exact HZ.out
      case measure => simp [intOf]; omega

theorem ret_2 {k1 k2 : IntKind} {a b c d : Int} (h1 : a = c) (h2 : b = d) : Ending.returned (.tuple #[.int k1 a, .int k2 b]) = .returned (.tuple #[.int k1 c, .int k2 d]) := by rw [h1, h2]
theorem acc_or (y c k : Nat) (hy : y < 128 ^ k) (hc : c < 256) (hk : k ≤ 9) (h9 : k = 9 → c ≤ 1) : bits BinOp.or IntKind.u64 (y : Int) (IntKind.u64.wrap (bits BinOp.and IntKind.u64 (c : Int) 127 * 2 ^ (7 * k))) = ((y + c % 128 * 128 ^ k : Nat) : Int) := by
  have e1 : bits BinOp.and IntKind.u64 (c : Int) 127 = ((c % 128 : Nat) : Int) := by
    have := bits_and_u64_nat c 127 (by omega) (by decide)
    rw [show ((127 : Nat) : Int) = 127 from rfl] at this
    rw [this, show (127 : Nat) = 2 ^ 7 - 1 from rfl, Nat.and_two_pow_sub_one_eq_mod]
  have e2 : (2 : Nat) ^ (7 * k) = 128 ^ k := by rw [Nat.pow_mul]
  have e3 : ((c % 128 : Nat) : Int) * 2 ^ (7 * k) = ((c % 128 * 128 ^ k : Nat) : Int) := by
    rw [← e2]; simp
  have hp : 128 ^ k ≤ 128 ^ 9 := Nat.pow_le_pow_right (by decide) hk
  have hlt : c % 128 * 128 ^ k < 18446744073709551616 := by
    by_cases h : k = 9
    · have := h9 h
      have : c % 128 * 128 ^ k ≤ 1 * 128 ^ 9 := Nat.mul_le_mul (by omega) hp
      exact Nat.lt_of_le_of_lt this (by decide)
    · have h8 : 128 ^ k ≤ 128 ^ 8 := Nat.pow_le_pow_right (by decide) (by omega)
      have : c % 128 * 128 ^ k ≤ 127 * 128 ^ 8 := Nat.mul_le_mul (by omega) h8
      exact Nat.lt_of_le_of_lt this (by decide)
  have hy2 : y < 18446744073709551616 := Nat.lt_trans (Nat.lt_of_lt_of_le hy hp) (by decide)
  rw [e1, e3, IntKind.wrap_u64, Int.emod_eq_of_lt (by omega) (by omega), bits_or_u64_nat _ _ hy2 hlt]
  congr 1
  have := Nat.two_pow_add_eq_or_of_lt (i := 7 * k) (b := y) (by rw [e2]; exact hy) (c % 128)
  rw [e2, Nat.mul_comm] at this
  rw [Nat.or_comm, ← this, Nat.add_comm]
theorem acc_lt (y c k : Nat) (hy : y < 128 ^ k) : y + c % 128 * 128 ^ k < 128 ^ (k + 1) := by
  have : c % 128 * 128 ^ k ≤ 127 * 128 ^ k := Nat.mul_le_mul_right _ (by omega)
  rw [pow128]
  omega

set_option maxRecDepth 100000 in
set_option maxHeartbeats 1600000 in
theorem unvar_any (s : ByteArray) (w : World) (_hs : s.size ≤ 1099511627776) :
    Calls Tryz.prog 111 #[.string s] w fun e w' => e = .returned (.tuple #[.int .u64 (unvarL s.data.toList).1, .int .i64 (unvarL s.data.toList).2]) ∧ w = w' := by
  go_enter Tryz.func111, Tryz.ntmps111
  go_wp2
  go_loop [4, 5] (fun a i => ∃ (k f y : Nat), a = .int .u64 (y : Nat) ∧ i = .int .i64 (k : Nat) ∧ k + f = 10 ∧ k ≤ s.size ∧ y < 128 ^ k ∧ unv f k y (s.data.toList.drop k) = unvarL s.data.toList) (fun _ i => 10 - (intOf i).toNat)
  case atStart => exact ⟨0, 10, 0, rfl, rfl, rfl, Nat.zero_le _, by decide, by rw [List.drop_zero]; rfl⟩
  case round =>
    obtain ⟨k, f, y, rfl, rfl, hkf, hk, hy, hn⟩ := hrel
    have HN := Lib.hid hn
    have HY := Lib.hid hy
    clear hn hy
    by_cases hlt : k < s.size
    · by_cases h10 : k < 10
      · obtain ⟨f, rfl⟩ : ∃ g, f = g + 1 := ⟨f - 1, by omega⟩
        have HDR := Lib.hid (show s.data.toList.drop k = s[k] :: s.data.toList.drop (k + 1) from List.drop_eq_getElem_cons (by simpa using hlt))
        have hc := s[k].toNat_lt
        have HU := Lib.hid (show unv (f + 1) k y (s[k] :: s.data.toList.drop (k + 1)) = if (k = 9 ∧ 1 < s[k].toNat) ∨ (0 < k ∧ s[k].toNat = 0) then (0, 0) else if s[k].toNat < 128 then (y + s[k].toNat * 128 ^ k, k + 1) else unv f (k + 1) (y + s[k].toNat % 128 * 128 ^ k) (s.data.toList.drop (k + 1)) from rfl)
        have hl0 : (0 : Int) ≤ (k : Int) := by omega
        have hl1 : (k : Int) < (s.size : Int) := by omega
        by_cases hA : k = 9 ∧ 1 < s[k].toNat
        · have HF := Lib.hid (show unvarL s.data.toList = (0, 0) by rw [← HN.out, HDR.out, HU.out, if_pos (Or.inl hA)])
          have q1 : ((k : Int) == 9) = true := by simp; omega
          have q2 : (1 : Int) < (s[k].toNat : Int) := by omega
          clear hA
          go_wp2
          go_ret2
          exact ⟨by rw [HF.out]; rfl, rfl⟩
        · by_cases hB : 0 < k ∧ s[k].toNat = 0
          · have HF := Lib.hid (show unvarL s.data.toList = (0, 0) by rw [← HN.out, HDR.out, HU.out, if_pos (Or.inr hB)])
            have q3 : (0 : Int) < (k : Int) := by omega
            have q4 : ((s[k].toNat : Int) == 0) = true := by simp; omega
            have q2 : ¬ (1 : Int) < (s[k].toNat : Int) := by omega
            have q2' : decide ((1 : Int) < (s[k].toNat : Int)) = false := decide_eq_false q2
            clear hA hB
            cases q1 : ((k : Int) == 9)
            all_goals
              go_wp2
              go_ret2
              exact ⟨by rw [HF.out]; rfl, rfl⟩
          · have HACC := Lib.hid (fun (h9 : k ≤ 9) (h1 : k = 9 → s[k].toNat ≤ 1) => acc_or y s[k].toNat k HY.out hc h9 h1)
            by_cases h128 : s[k].toNat < 128
            · have HF := Lib.hid (show unvarL s.data.toList = (y + s[k].toNat * 128 ^ k, k + 1) by rw [← HN.out, HDR.out, HU.out, if_neg (by omega), if_pos h128])
              have HM := Lib.hid (show s[k].toNat % 128 = s[k].toNat from Nat.mod_eq_of_lt h128)
              have q5 : (s[k].toNat : Int) < 128 := by omega
              have HB' := Lib.hid hB
              have HA' := Lib.hid hA
              clear hA hB
              rcases (by omega : k = 0 ∨ (0 < k ∧ k < 9) ∨ k = 9) with g | ⟨g1, g2⟩ | g
              · have HG := Lib.hid g
                have q3 : ¬ (0 : Int) < (k : Int) := by omega
                have q1 : ((k : Int) == 9) = false := by simp; omega
                have q3' : decide ((0 : Int) < (k : Int)) = false := decide_eq_false q3
                clear g
                go_wp2
                go_ret2
                exact ⟨ret_2 (by rw [HF.out]; have := HACC.out (by have := HG.out; omega) (by have := HG.out; omega); rw [HM.out] at this; have h0 := HG.out; subst h0; simpa using this) (by rw [HF.out]; simp), rfl⟩
              · have q1 : ((k : Int) == 9) = false := by simp; omega
                have q3 : (0 : Int) < (k : Int) := by omega
                have q4 : ((s[k].toNat : Int) == 0) = false := by have := HB'.out; simp; omega
                go_wp2
                go_ret2
                exact ⟨ret_2 (by rw [HF.out]; have := HACC.out (by omega) (by omega); rw [HM.out] at this; exact this) (by rw [HF.out]; simp), rfl⟩
              · have HG := Lib.hid g
                have q1 : ((k : Int) == 9) = true := by simp; omega
                have q3 : (0 : Int) < (k : Int) := by omega
                have q2 : decide ((1 : Int) < (s[k].toNat : Int)) = false := decide_eq_false (by have := HA'.out; omega)
                have q4 : ((s[k].toNat : Int) == 0) = false := by have := HB'.out; simp; omega
                clear g
                go_wp2
                go_ret2
                exact ⟨ret_2 (by rw [HF.out]; have := HACC.out (by have := HG.out; omega) (by have := HA'.out; have := HG.out; omega); rw [HM.out] at this; have h0 := HG.out; subst h0; simpa using this) (by rw [HF.out]; simp), rfl⟩
            · have h9 : k < 9 := by omega
              have HF := Lib.hid (show unv f (k + 1) (y + s[k].toNat % 128 * 128 ^ k) (s.data.toList.drop (k + 1)) = unvarL s.data.toList by rw [← HN.out, HDR.out, HU.out, if_neg (by omega), if_neg h128])
              have HL := Lib.hid (acc_lt y s[k].toNat k HY.out)
              have HAC := Lib.hid (HACC.out (by omega) (by omega))
              have q1 : ((k : Int) == 9) = false := by simp; omega
              have q4 : ((s[k].toNat : Int) == 0) = false := by simp; omega
              have q5 : ¬ (s[k].toNat : Int) < 128 := by omega
              clear hA hB HACC
              go_wp2
              all_goals
                go_round
                case rel => exact ⟨k + 1, f, _, by rw [HAC.out], by go_num, by omega, by omega, HL.out, HF.out⟩
                case measure => simp [intOf]; omega
      · have HF := Lib.hid (show unvarL s.data.toList = (0, 0) by rw [← HN.out, show f = 0 by omega]; rfl)
        go_wp2
        go_ret2
        exact ⟨ret_2 (by rw [HF.out]; rfl) (by rw [HF.out]; rfl), rfl⟩
    · have HF := Lib.hid (show unvarL s.data.toList = (0, 0) by
        rw [← HN.out, List.drop_of_length_le (by simp; omega)]
        cases f <;> rfl)
      go_wp2
      go_ret2
      exact ⟨ret_2 (by rw [HF.out]; rfl) (by rw [HF.out]; rfl), rfl⟩
end Go.Proofs.YtpeepdkeicgkiaaGreatDoor
namespace Go.Proofs.YtpeepdkeicgkiaaGreatDoor
set_option linter.unusedVariables false
set_option linter.unusedSimpArgs false
set_option linter.unusedSectionVars false
open Go.RowKit

theorem bytesV_set (done : List UInt8) (c d : UInt8) : (bytesV (done ++ [c])).set done.length (.int .u8 d.toNat) = bytesV (done ++ [d]) := by
  simp [bytesV, List.set_append_right]
/-- wpList_app1 where the new block's number is spelled otherwise -/
theorem wpList_app1s {P : Program} {w : World} {ops : Array Oper} {rest : List Oper} {o : Oper} {a : Act} {Q : Exit → Act → World → Prop} (hgd : o.guard = none) (s x : Operand) (t : TypeId)
    (ho : o.op = .call { callee := .builtin .append, args := #[s, x], argTypes := #[t, t] })
    (base : Nat) (e : TypeId) {z : Value} {size bytes : Nat} (ht : P.underlying t = some (.slice e))
    (hinfo : (P.info? e).map (fun i => (i.zero, i.size, i.bytes)) = some (some z, size, bytes)) (hzs : z.cells.size = size) (hsz : 0 < size)
    (v : Value) (n : Nat) (xs : List Value) (hs : a.eval s = v) (hown : w.ownsRow base e size v n xs)
    (cs : Array Value) {bz : Nat} (hbz : bz = w.heap.size) (hx : a.eval x = .slice (some ⟨bz, 0, none⟩) 1 1) (hl : cs.size = size) (h1 : ∀ u ∈ cs.toList, u.oneCell' = true)
    (hbytes : (n + 1) * bytes ≤ 140737488355328) (h63 : n + 1 ≤ 140737488355328) (hbase : base ≤ w.heap.size)
    (h : ∀ g cap w', w'.ownsRow base e size (.slice (some ⟨g, 0, none⟩) (n + 1) cap) (n + 1) (xs ++ cs.toList) → w.grownBy w' v.ownBlock → Below base w w' → (v.ownBlock = some g ∨ g = w.heap.size + 1) → wpList P ops Q rest (a.put o.dst (.slice (some ⟨g, 0, none⟩) (n + 1) cap)) w') :
    wpList P ops Q (o :: rest) a (w.alloc (.cells cs e)) := by
  subst hbz
  exact wpList_app1 hgd s x t ho base e ht hinfo hzs hsz v n xs hs hown cs hx hl h1 hbytes h63 hbase h
theorem bytesV_last (done : List UInt8) (c : UInt8) : (bytesV (done ++ [c]))[done.length]? = some (.int .u8 c.toNat) := by
  simp [bytesV]
set_option maxRecDepth 100000 in
set_option maxHeartbeats 1600000 in
theorem refvar_any (x : Nat) (w : World) (hx : x < 18446744073709551616) :
    Calls Tryz.prog 92 #[.int .u64 x] w fun e w' => e = .returned (.string ⟨(varL x).toArray⟩) ∧ Below w.heap.size w w' := by
  have h0 : x < 128 ^ (10 + 1) := Nat.lt_trans hx (by decide)
  have HX := Lib.hid hx
  have hw0 : IntKind.u8.wrap ((x : Int) % 128) = (x : Int) % 128 := IntWalk.u8_in _ (by omega)
  have hwx : IntKind.u64.wrap ((x : Int) / 128) = (x : Int) / 128 := by rw [IntKind.wrap_u64]; omega
  clear hx
  go_enter Tryz.func92, Tryz.ntmps92
  go_wp2
  go_loopw [0, 3] (fun y v wr => ∃ (z f g cap : Nat) (done : List UInt8), y = .int .u64 ((z / 128 : Nat) : Int) ∧ v = .slice (some ⟨g, 0, none⟩) (done.length + 1 : Nat) cap ∧ z ≤ x ∧ wr.ownsRow w.heap.size 5 1 (.slice (some ⟨g, 0, none⟩) (done.length + 1) cap) (done.length + 1) (bytesV (done ++ [UInt8.ofNat (z % 128)])) ∧ Below w.heap.size w wr ∧ done ++ varF f z = varL x ∧ done.length + f ≤ 10 ∧ z < 128 ^ (f + 1)) (fun y _ _ => (intOf y).toNat)
  case atStart =>
    refine ⟨x, 10, w.heap.size, 1, [], ?_, rfl, Nat.le_refl _, ?_, (Below.refl _ w).alloc (Nat.le_refl _) _, rfl, by simp, h0⟩
    · rw [show ((x / 128 : Nat) : Int) = (x : Int) / 128 by omega]
    · have := World.ownsRow_lit (e := 5) (size := 1) w #[.int .u8 ((x : Int) % 128)] 1 (Nat.le_refl _) (by decide) rfl
      have e : bytesV ([] ++ [UInt8.ofNat (x % 128)]) = [.int .u8 ((x : Int) % 128)] := by
        simp only [List.nil_append, bytesV, List.map_cons, List.map_nil]
        rw [u8_small (by omega), show ((x % 128 : Nat) : Int) = (x : Int) % 128 by omega]
      rw [e]
      exact this
  case round =>
    obtain ⟨z, f, g, cap, done, rfl, rfl, hzx, hown, hb, hn, hlf, hz⟩ := hrel
    have HN := Lib.hid hn
    have HZ := Lib.hid hz
    have HZLE := Lib.hid hzx
    have HZX := Lib.hid (Nat.lt_of_le_of_lt hzx HX.out)
    have HOWN := Lib.hid hown
    have hsz := hb.size
    have hll : done.length ≤ 10 := by omega
    clear hn hz hzx
    by_cases h : z < 128
    · have hz0 : ((z / 128 : Nat) : Int) = 0 := by omega
      rw [hz0]
      have hV : done ++ [UInt8.ofNat (z % 128)] = varL x := by rw [Nat.mod_eq_of_lt h, ← varF_small (f := f) h]; exact HN.out
      have hcv := run_convert_own 76 9 5 Tryz.underlying76 Tryz.underlying5 Tryz.underlying9 hown
      rw [hV] at hcv
      clear hV hz0 h hown
      go_wp2
      go_ret
      exact ⟨rfl, hb⟩
    · obtain ⟨f, rfl⟩ : ∃ g, f = g + 1 := by
        cases f with
        | zero => have := HZ.out; simp at this; omega
        | succ g => exact ⟨g, rfl⟩
      have hq1 : (0 : Int) < ((z / 128 : Nat) : Int) := by omega
      have HV := Lib.hid (show (done ++ [UInt8.ofNat (z % 128 + 128)]) ++ varF f (z / 128) = varL x by rw [← HN.out, varF_great h, List.append_assoc]; rfl)
      have HQ := Lib.hid (show z / 128 ≤ x from Nat.le_trans (Nat.div_le_self _ _) HZLE.out)
      have HP := Lib.hid (show z / 128 < 128 ^ (f + 1) by rw [Nat.div_lt_iff_lt_mul (by decide), Nat.mul_comm, ← pow128]; exact HZ.out)
      have hm : z % 128 < 128 := by omega
      have hwq : IntKind.u64.wrap (((z / 128 : Nat) : Int) / 128) = ((z / 128 : Nat) : Int) / 128 := by rw [IntKind.wrap_u64]; have := HZX.out; omega
      have hm2 : IntKind.u8.wrap (((z / 128 : Nat) : Int) % 128) = ((z / 128 : Nat) : Int) % 128 := IntWalk.u8_in _ (by omega)
      have HLT := Lib.hid (show z / 128 < z by omega)
      clear h
      generalize z / 128 = q at *
      generalize z % 128 = c at *
      have hcell := hown.cellAt done.length (by omega)
      rw [bytesV_last, u8_small (by omega)] at hcell
      have hfz := hown.frozenAt done.length
      have hst := hown.stored done.length (.int .u8 ((c : Int) + 128))
      rw [show Value.int .u8 ((c : Int) + 128) = .int .u8 ((UInt8.ofNat (c + 128)).toNat : Int) by rw [u8_small (by omega)]; rfl, bytesV_set, ← show Value.int .u8 ((c : Int) + 128) = .int .u8 ((UInt8.ofNat (c + 128)).toNat : Int) by rw [u8_small (by omega)]; rfl] at hst
      have HST := Lib.hid hst
      have hown2 := hst.1
      have hb2 : Below w.heap.size w (wr.setCell ⟨g, done.length, none⟩ (.int .u8 ((c : Int) + 128))) := hb.grown hst.2 hsz (fun j hj => by cases hj; exact (hown.lt g rfl).1)
      have hsz2 : w.heap.size ≤ (wr.setCell ⟨g, done.length, none⟩ (.int .u8 ((c : Int) + 128))).heap.size := hb2.size
      have HSZ3 := Lib.hid (show wr.heap.size = (wr.setCell ⟨g, done.length, none⟩ (.int .u8 ((c : Int) + 128))).heap.size by simp)
      clear hst hown
      go_wp2_with (at_builtin; refine wpList_app1s rfl _ _ 76 rfl w.heap.size 5 Tryz.underlying76 infoB rfl (by decide) _ _ _ rfl hown2 _ HSZ3.out rfl rfl (oneCell_int _ _) ?_ ?_ ?_ ?_; omega; omega; exact hsz2; intro g1 cap1 w5 hown' hgr hbw _)
      go_roundw
      case rel =>
        refine ⟨q, f, g1, cap1, done ++ [UInt8.ofNat (c + 128)], ?_, by simp, HQ.out, ?_, hb2.trans hbw, HV.out, by simp; omega, HP.out⟩
        · rw [show ((q / 128 : Nat) : Int) = (q : Int) / 128 by omega]
        · rw [bytesV_app]
          have e : bytesV [UInt8.ofNat (q % 128)] = [.int .u8 ((q : Int) % 128)] := by
            simp only [bytesV, List.map_cons, List.map_nil]
            rw [u8_small (by omega), show ((q % 128 : Nat) : Int) = (q : Int) % 128 by omega]
          rw [e]
          simpa using hown'
      case measure => simp [intOf]; omega
end Go.Proofs.YtpeepdkeicgkiaaGreatDoor
namespace Go.Proofs.YtpeepdkeicgkiaaGreatDoor
set_option linter.unusedVariables false
set_option linter.unusedSimpArgs false
set_option linter.unusedSectionVars false
open Go.RowKit

theorem sum_step (s : ByteArray) (k : Nat) (h : k < s.size) : sumV (s.data.toList.take (k + 1)) = sumV (s.data.toList.take k) + s[k].toNat % 128 * 128 ^ k := by
  have hs : s.data.toList.length = s.size := by simp
  have hl : (s.data.toList.take k).length = k := by rw [List.length_take]; omega
  rw [ba_take s k h, sumV_snoc, hl]
theorem unvar_zero {l : List UInt8} (h : (unvarL l).2 = 0) : unvarL l = (0, 0) := by
  have key : ∀ f i a (l : List UInt8), (unv f i a l).2 = 0 → unv f i a l = (0, 0) := by
    intro f
    induction f with
    | zero => intro i a l _; rfl
    | succ f ih =>
      intro i a l h
      cases l with
      | nil => rfl
      | cons c r =>
        simp only [unv] at h ⊢
        split
        · rfl
        · next g =>
          rw [if_neg g] at h
          split
          · next hc => rw [if_pos hc] at h; simp at h
          · next hc => rw [if_neg hc] at h; exact ih _ _ _ h
  exact key _ _ _ _ h
theorem ref_sum (S P c M : Nat) : (S % M + (c % 128 * (P % M)) % M) % M = (S + c % 128 * P) % M := by
  rw [← Nat.add_mod, Nat.add_mod S, Nat.mul_mod, Nat.mod_mod, ← Nat.mul_mod, ← Nat.add_mod]
theorem ref_step (S P c X U : Nat) (hX : S % 18446744073709551616 = X) (hU : P % 18446744073709551616 = U) : IntKind.u64.wrap ((X : Int) + IntKind.u64.wrap ((c : Int) % 128 * (U : Int))) = (((S + c % 128 * P) % 18446744073709551616 : Nat) : Int) := by
  rw [IntKind.wrap_u64, IntKind.wrap_u64, ← ref_sum, hX, hU]
  simp
theorem ref_unit (P U : Nat) (hU : P % 18446744073709551616 = U) : IntKind.u64.wrap ((U : Int) * 128) = ((128 * P % 18446744073709551616 : Nat) : Int) := by
  rw [IntKind.wrap_u64]
  subst hU
  omega
set_option maxRecDepth 100000 in
set_option maxHeartbeats 1600000 in
theorem refunvar_any (s : ByteArray) (w : World) (hs : s.size ≤ 1099511627776) :
    Calls Tryz.prog 95 #[.string s] w fun e w' => e = .returned (.tuple #[.int .u64 (unvarL s.data.toList).1, .int .i64 (unvarL s.data.toList).2]) ∧ Below w.heap.size w w' := by
  go_enter Tryz.func95, Tryz.ntmps95
  go_wp2
  go_loopw [4] (fun i wr => ∃ n : Nat, i = .int .i64 (n : Nat) ∧ 1 ≤ n ∧ n ≤ 11 ∧ Below w.heap.size w wr ∧ ((unvarL s.data.toList).2 = 0 ∨ n ≤ (unvarL s.data.toList).2)) (fun i _ => 11 - (intOf i).toNat)
  case atStart => exact ⟨1, rfl, Nat.le_refl _, by decide, Below.refl _ _, by omega⟩
  case round =>
    obtain ⟨n, rfl, hn1, hn2, hb, hn⟩ := hrel
    have HN := Lib.hid hn
    have HB := Lib.hid hb
    clear hn hb
    by_cases hc : n ≤ 10 ∧ n ≤ s.size
    · obtain ⟨h10, hsz⟩ := hc
      go_wp2
      go_loop [5, 6, 7] (fun x u i => ∃ k : Nat, k ≤ n ∧ i = .int .i64 (k : Nat) ∧ x = .int .u64 ((sumV (s.data.toList.take k) % 18446744073709551616 : Nat) : Int) ∧ u = .int .u64 ((128 ^ k % 18446744073709551616 : Nat) : Int)) (fun _ _ i => n - (intOf i).toNat)
      case atStart => exact ⟨0, Nat.zero_le _, rfl, rfl, rfl⟩
      case round =>
        obtain ⟨k, hk, rfl, rfl, rfl⟩ := hrel
        by_cases hkn : k < n
        · have hlt : k < s.size := by omega
          have HS := Lib.hid (sum_step s k hlt)
          have hc := s[k].toNat_lt
          generalize hX : sumV (s.data.toList.take k) % 18446744073709551616 = X
          generalize hU : 128 ^ k % 18446744073709551616 = U
          have HXU := Lib.hid (And.intro hX hU)
          clear hX hU
          go_wp2
          go_round
          case rel =>
            obtain ⟨hX, hU⟩ := HXU.out
            refine ⟨k + 1, by omega, by go_num, ?_, ?_⟩
            · rw [ref_step _ _ _ _ _ hX hU, HS.out]
            · rw [ref_unit _ _ hU, pow128]
          case measure => simp [intOf]; omega
        · obtain rfl : k = n := by omega
          have hlt : sumV (s.data.toList.take k) % 18446744073709551616 < 18446744073709551616 := Nat.mod_lt _ (by decide)
          have HMISS := Lib.hid (fun h => try_miss (l := s.data.toList) (n := k) h (by omega))
          have HHIT := Lib.hid (fun h => try_hit (l := s.data.toList) (n := k) (y := sumV (s.data.toList.take k) % 18446744073709551616) hlt h (by simp; exact hsz))
          have HEXT := Lib.hid (show (s.extract 0 k).data.toList = s.data.toList.take k from Lib.extract_from_zero s k)
          generalize sumV (s.data.toList.take k) % 18446744073709551616 = X at *
          have HLT := Lib.hid hlt
          clear hlt
          have HR := Lib.hid fun W => refvar_any X W HLT.out
          have hk0 : (0 : Int) ≤ (k : Int) := by omega
          have hk1 : (k : Int) ≤ (s.size : Int) := by omega
          cases hq : (varL X == (s.extract 0 k).toList) with
          | true =>
            have HF := Lib.hid (show unvarL s.data.toList = (X, k) by
              refine HHIT.out ?_
              have := eq_of_beq hq
              rw [ba_toList, HEXT.out] at this
              exact this)
            go_wp2
            go_region_with (go_at_call 92; refine (HR.out _).mono ?_; rintro e w4 ⟨rfl, hb4⟩)
            all_goals
              go_wp2
              go_ret2
              exact ⟨ret_2 (by rw [HF.out]) (by rw [HF.out]), HB.out.drew.trans (hb4.mono HB.out.drew.size)⟩
          | false =>
            have HF := Lib.hid (show (unvarL s.data.toList).2 ≠ k by
              refine HMISS.out fun e => ?_
              rw [ba_toList, HEXT.out, e] at hq
              simp at hq)
            go_wp2
            go_region_with (go_at_call 92; refine (HR.out _).mono ?_; rintro e w4 ⟨rfl, hb4⟩)
            all_goals
              go_wp2
              go_roundw
              case rel => exact ⟨k + 1, by go_num, by omega, by omega, HB.out.drew.trans (hb4.mono HB.out.drew.size), by have := HN.out; have := HF.out; omega⟩
              case measure => simp [intOf]; omega
    · have HF := Lib.hid (show unvarL s.data.toList = (0, 0) by
        have h1 := unvar_le s.data.toList
        have h2 : s.data.toList.length = s.size := by simp
        exact unvar_zero (by have := HN.out; omega))
      rcases (by omega : ¬ n ≤ 10 ∨ (n ≤ 10 ∧ ¬ n ≤ s.size)) with h1 | ⟨h1, h2⟩
      all_goals
        clear hc
        go_wp2
        go_ret2
        exact ⟨ret_2 (by rw [HF.out]; rfl) (by rw [HF.out]; rfl), HB.out⟩
end Go.Proofs.YtpeepdkeicgkiaaGreatDoor
