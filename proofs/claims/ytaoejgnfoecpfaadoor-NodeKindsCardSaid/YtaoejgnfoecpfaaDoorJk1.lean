/- General lemmas over any program: a slice that the call itself makes, one element appended; bytes made a string. Numbers in groups of seven bits: the plain law. Bytes and texts as lists; a text behind its length: the plain law. A tree's nodes as bytes: the plain law. Regions that draw their order and hold calls that make memory: one walk serves every order. Regions that draw their order: an invariant over what has been done serves every order. -/
import Derived.Test.YtaoejgnfoecpfaaDoorRows
import Derived.WalkKit
import Derived.WalkSpells
import Derived.WalkLawsBesides
import Derived.LoopTactic
import Derived.Outline
import Derived.Deep.QuietTactic
import Derived.BigQuiet
import Derived.Lib.Hide
import Derived.Laws.BytesArg
import Derived.Maps.AppendAt
import Derived.Lib.Split
namespace Go.Proofs.YtaoejgnfoecpfaaDoor
set_option linter.unusedVariables false
set_option linter.unusedSimpArgs false
set_option linter.unusedSectionVars false
open Go.RowKit

def bytesV (l : List UInt8) : List Value := l.map fun c => .int .u8 c.toNat
theorem bytesV_len (l : List UInt8) : (bytesV l).length = l.length := by simp [bytesV]
theorem bytesV_app (l m : List UInt8) : bytesV (l ++ m) = bytesV l ++ bytesV m := by simp [bytesV]

/-- append(v, x) of one element: v is nil or the call's own; the source is the one-element block just made. -/
theorem wpList_app1 {P : Program} {w : World} {ops : Array Oper} {rest : List Oper} {o : Oper} {a : Act} {Q : Exit → Act → World → Prop} (hgd : o.guard = none) (s x : Operand) (t : TypeId)
    (ho : o.op = .call { callee := .builtin .append, args := #[s, x], argTypes := #[t, t] })
    (base : Nat) (e : TypeId) {z : Value} {size bytes : Nat} (ht : P.underlying t = some (.slice e))
    (hinfo : (P.info? e).map (fun i => (i.zero, i.size, i.bytes)) = some (some z, size, bytes)) (hzs : z.cells.size = size) (hsz : 0 < size)
    (v : Value) (n : Nat) (xs : List Value) (hs : a.eval s = v) (hown : w.ownsRow base e size v n xs)
    (cs : Array Value) (hx : a.eval x = .slice (some ⟨w.heap.size, 0, none⟩) 1 1) (hl : cs.size = size) (h1 : ∀ u ∈ cs.toList, u.oneCell' = true)
    (hbytes : (n + 1) * bytes ≤ 140737488355328) (h63 : n + 1 ≤ 140737488355328) (hbase : base ≤ w.heap.size)
    (h : ∀ g cap w', w'.ownsRow base e size (.slice (some ⟨g, 0, none⟩) (n + 1) cap) (n + 1) (xs ++ cs.toList) → w.grownBy w' v.ownBlock → Below base w w' → (v.ownBlock = some g ∨ g = w.heap.size + 1) → wpList P ops Q rest (a.put o.dst (.slice (some ⟨g, 0, none⟩) (n + 1) cap)) w') :
    wpList P ops Q (o :: rest) a (w.alloc (.cells cs e)) := by
  obtain ⟨i0, hi, hz0, hz1, hz2⟩ := info_parts hinfo
  refine wpList_append_own_at _ hgd s x t ho base e i0 z size bytes ht hi hz0 hz1 hz2 hzs hsz v n xs hs (hown.alloc _) ⟨w.heap.size, 0, none⟩ 1 1 cs.toList hx (by simp [hl]) ?_ h1 (by unfold maxLen; omega) hbytes (by simp; omega) ?_
  · intro j u hj
    have hadd : (⟨w.heap.size, 0, none⟩ : Addr).add j = ⟨w.heap.size, j, none⟩ := by unfold Addr.add; split <;> simp_all
    rw [hadd, World.cell?_alloc_at _ _ _ _ rfl]
    simpa using hj
  · intro v' w' hown' hg _ hloc
    have hgr : w.grownBy w' v.ownBlock := (World.grownBy_alloc w _ _).trans hg
    obtain ⟨g', cap', rfl⟩ : ∃ g cap, v' = .slice (some ⟨g, 0, none⟩) (n + 1) cap := by
      rcases hown'.2 with ⟨_, h0⟩ | ⟨g, cap, _, hv, _⟩
      · omega
      · exact ⟨g, cap, hv⟩
    refine h g' cap' w' hown' hgr ?_ (by
      rcases hloc with e | e
      · exact Or.inl e.symm
      · simp [Value.ownBlock] at e; exact Or.inr e)
    refine (Below.refl base w).grown hgr hbase ?_
    intro k hk
    obtain ⟨_, hv | ⟨g, cap, cur, hv, hg', _⟩⟩ := hown
    · rw [hv.1] at hk; simp [Value.ownBlock] at hk
    · rw [hv] at hk; simp [Value.ownBlock] at hk; omega

theorem oneCell_int (k : IntKind) (n : Int) : ∀ u ∈ (#[Value.int k n] : Array Value).toList, u.oneCell' = true := by simp [Value.oneCell']
theorem oneCell_string (s : ByteArray) : ∀ u ∈ (#[Value.string s] : Array Value).toList, u.oneCell' = true := by simp [Value.oneCell']

theorem below_grown {B : Nat} {a w w' : World} {e : TypeId} {size n : Nat} {v : Value} {xs : List Value} (hb : Below B a w) (hB : B ≤ w.heap.size)
    (hown : w.ownsRow B e size v n xs) (hg : w.grownBy w' v.ownBlock) : Below B a w' := by
  refine hb.grown hg hB ?_
  intro k hk
  obtain ⟨_, hv | ⟨g, cap, cur, hv, hg', _⟩⟩ := hown
  · rw [hv.1] at hk; simp [Value.ownBlock] at hk
  · rw [hv] at hk; simp [Value.ownBlock] at hk; omega

/-- A cell of an owned row. -/
theorem own_cell {w : World} {base : Nat} {e : TypeId} {n : Nat} {a : Addr} {len cap : Nat} {xs : List Value} (hown : w.ownsRow base e 1 (.slice (some a) len cap) n xs) {j : Nat} {u : Value} (hj : xs[j]? = some u) :
    w.cell? (a.add j) = some u := by
  obtain ⟨hl, hv | ⟨g, cap', cur, hv, hg', hheap, h4, h5, h6, h7⟩⟩ := hown
  · simp at hv
  · simp at hv
    obtain ⟨rfl, rfl, rfl⟩ := hv
    have hadd : (⟨g, 0, none⟩ : Addr).add j = ⟨g, j, none⟩ := by unfold Addr.add; split <;> simp_all
    rw [hadd]
    simp only [World.cell?, hheap]
    rw [← h7] at hj
    have hj' : j < len * 1 := by
      have := (List.getElem?_eq_some_iff.1 hj).1
      simp at this; omega
    rw [List.getElem?_take, if_pos hj'] at hj
    simpa using hj

/-- string(v), v the call's own row of bytes. -/
theorem run_convert_own {P : Program} {w : World} {base : Nat} {v : Value} {n : Nat} {l : List UInt8} (src dst e : TypeId) (hs : P.underlying src = some (.slice e)) (he : P.underlying e = some (.int .u8)) (hd : P.underlying dst = some .string)
    (hown : w.ownsRow base e 1 v n (bytesV l)) : (convert src dst v).run P w = .ok (.string ⟨l.toArray⟩) w := by
  have hlen := hown.1
  simp [bytesV_len] at hlen
  have hc := fun (a : Addr) (len cap : Nat) (h : w.ownsRow base e 1 (.slice (some a) len cap) n (bytesV l)) (j : Nat) (hj : j < l.length) =>
    own_cell (j := j) (u := .int .u8 (l[j].toNat : Int)) h (by simp [bytesV, List.getElem?_eq_getElem hj])
  rcases hown.2 with hv | ⟨g, cap, cur, hv, _⟩
  · obtain ⟨rfl, rfl⟩ := hv
    have : l = [] := List.length_eq_zero_iff.1 hlen
    subst this
    exact run_convert_bytes_nil w src e hs he 0 0 dst hd
  · subst hv
    subst hlen
    exact run_convert_bytes_back w src dst e ⟨g, 0, none⟩ cap l hs he hd (fun j hj => hc _ _ _ hown j hj)

/-- []byte(s): a new row with s's bytes. -/
theorem bytes_of_string {P : Program} (w : World) (src dst e : TypeId) (s : ByteArray) (hs : P.underlying src = some .string) (hd : P.underlying dst = some (.slice e)) (he : P.underlying e = some (.int .u8)) :
    ∃ cap w1, (convert src dst (.string s)).run P w = .ok (.slice (some ⟨w.heap.size, 0, none⟩) s.size cap) w1 ∧ Below w.heap.size w w1 ∧ w1.heap.size = w.heap.size + 1 ∧
      ∀ j (hj : j < s.size), w1.cell? ⟨w.heap.size, j, none⟩ = some (.int .u8 (s[j].toNat : Int)) := by
  refine ⟨_, _, run_bytes_of_string w src dst e s hs hd he, ((Below.refl _ w).drew).alloc (Nat.le_refl _) _, by simp, ?_⟩
  intro j hj
  have h := bytesRow_at s (grownCap w s.size 0 e) j hj
  have hh : ∀ (C : Array Value) (m : Nat × Nat), (w.drew.alloc (.cells C e m)).cell? ⟨w.heap.size, j, none⟩ = C[j]? := by
    intro C m
    have : (w.drew.alloc (.cells C e m)).heap[w.heap.size]? = some (.cells C e m) := by
      show (w.heap.push (.cells C e m))[w.heap.size]? = _
      simp
    unfold World.cell?
    simp only [this]
    rfl
  rw [hh, h]
  rfl

theorem ba_take (s : ByteArray) (k : Nat) (h : k < s.size) : s.data.toList.take (k + 1) = s.data.toList.take k ++ [s[k]] := by
  rw [List.take_succ_eq_append_getElem (by simpa using h)]; rfl
theorem ba_mem (s : ByteArray) (k : Nat) (h : k < s.size) : s[k] ∈ s.data.toList := by
  have : s[k] = s.data.toList[k]'(by simpa using h) := rfl
  rw [this]; exact List.getElem_mem _
theorem ba_all_snoc {p : UInt8 → Bool} (s : ByteArray) (k : Nat) (h : k < s.size) (hp : (s.data.toList.take k).all p = true) (hc : p s[k] = true) : (s.data.toList.take (k + 1)).all p = true := by
  rw [ba_take s k h, List.all_append, hp]; simp [hc]
theorem ba_all_false {p : UInt8 → Bool} (s : ByteArray) (k : Nat) (h : k < s.size) (hc : p s[k] = false) : s.data.toList.all p = false := by
  rw [List.all_eq_false]; exact ⟨s[k], ba_mem s k h, by simp [hc]⟩
theorem ba_take_all (s : ByteArray) : s.data.toList.take s.size = s.data.toList := List.take_of_length_le (by simp)
theorem ba_toList (s : ByteArray) : s.toList = s.data.toList := by
  exact ByteArray.toList_eq s
theorem toList_isEmpty (s : ByteArray) : s.toList.isEmpty = decide (s.size = 0) := by
  rw [ba_toList, Bool.eq_iff_iff]
  simp [← Array.size_eq_zero_iff]
theorem ret_bool {a b : Bool} (h : a = b) : Ending.returned (.bool a) = .returned (.bool b) := by rw [h]
theorem ret_int {k : IntKind} {a b : Int} (h : a = b) : Ending.returned (.int k a) = .returned (.int k b) := by rw [h]
theorem ret_str {a b : ByteArray} (h : a = b) : Ending.returned (.string a) = .returned (.string b) := by rw [h]

end Go.Proofs.YtaoejgnfoecpfaaDoor
namespace Go.Proofs.YtaoejgnfoecpfaaDoor
set_option linter.unusedVariables false
set_option linter.unusedSimpArgs false
set_option linter.unusedSectionVars false
open Go.RowKit

/-- a number in groups of seven bits, the lowest first -/
def varF : Nat → Nat → List UInt8
  | 0, x => [UInt8.ofNat (x % 128)]
  | f + 1, x => if x < 128 then [UInt8.ofNat x] else UInt8.ofNat (x % 128 + 128) :: varF f (x / 128)
def varL (x : Nat) : List UInt8 := varF 10 x
theorem varF_len : ∀ f x, 1 ≤ (varF f x).length ∧ (varF f x).length ≤ f + 1
  | 0, x => by simp [varF]
  | f + 1, x => by
    have := varF_len f (x / 128)
    simp only [varF]
    split <;> simp <;> omega
theorem pow128 (f : Nat) : 128 ^ (f + 1) = 128 * 128 ^ f := by rw [Nat.pow_succ, Nat.mul_comm]
theorem varF_fuel : ∀ f g x, x < 128 ^ (f + 1) → x < 128 ^ (g + 1) → varF f x = varF g x
  | 0, 0, x, _, _ => rfl
  | 0, g + 1, x, h, _ => by
    have h1 : x < 128 := by simpa using h
    simp only [varF]
    rw [if_pos h1, Nat.mod_eq_of_lt h1]
  | f + 1, 0, x, _, h => by
    have h1 : x < 128 := by simpa using h
    simp only [varF]
    rw [if_pos h1, Nat.mod_eq_of_lt h1]
  | f + 1, g + 1, x, h1, h2 => by
    simp only [varF]
    split
    · rfl
    · rw [varF_fuel f g (x / 128)]
      · rw [Nat.div_lt_iff_lt_mul (by decide), Nat.mul_comm, ← pow128]; exact h1
      · rw [Nat.div_lt_iff_lt_mul (by decide), Nat.mul_comm, ← pow128]; exact h2
theorem varF_small {f x : Nat} (h : x < 128) : varF f x = [UInt8.ofNat x] := by
  cases f with
  | zero => simp only [varF]; rw [Nat.mod_eq_of_lt h]
  | succ f => simp only [varF]; rw [if_pos h]
theorem varF_great {f x : Nat} (h : ¬ x < 128) : varF (f + 1) x = UInt8.ofNat (x % 128 + 128) :: varF f (x / 128) := by
  simp only [varF]; rw [if_neg h]

/-- the number at the front -/
def unv : Nat → Nat → Nat → List UInt8 → Nat × Nat
  | 0, _, _, _ => (0, 0)
  | _ + 1, _, _, [] => (0, 0)
  | f + 1, i, a, c :: r => if (i = 9 ∧ 1 < c.toNat) ∨ (0 < i ∧ c.toNat = 0) then (0, 0) else if c.toNat < 128 then (a + c.toNat * 128 ^ i, i + 1) else unv f (i + 1) (a + c.toNat % 128 * 128 ^ i) r
def unvarL (l : List UInt8) : Nat × Nat := unv 10 0 0 l

theorem u8_small {x : Nat} (h : x < 256) : (UInt8.ofNat x).toNat = x := by
  simp only [UInt8.toNat_ofNat']
  exact Nat.mod_eq_of_lt h
/-- 2 ^ (64 - 7 * i) -/
def room : Nat → Nat
  | 0 => 18446744073709551616
  | i + 1 => room i / 128
theorem room9 : room 9 = 2 := by decide
theorem room_le : ∀ i, i ≤ 9 → 128 ^ i * room i ≤ 18446744073709551616 := by decide
theorem room_pos : ∀ i, i ≤ 9 → 1 ≤ room i := by decide
theorem room_succ : ∀ i, i < 9 → room i = 128 * room (i + 1) := by decide
theorem mul_step (y i : Nat) : y % 128 * 128 ^ i + y / 128 * 128 ^ (i + 1) = y * 128 ^ i := by
  have h := Nat.div_add_mod y 128
  rw [pow128]
  have e : y / 128 * (128 * 128 ^ i) = 128 * (y / 128) * 128 ^ i := by
    rw [← Nat.mul_assoc, Nat.mul_comm (y / 128) 128]
  rw [e, ← Nat.add_mul, Nat.add_comm, h]
theorem room_div {i y : Nat} (hi : i < 9) (h : y < room i) : y / 128 < room (i + 1) := by
  have := room_succ i hi
  omega
/-- what was written is read -/
theorem unv_var : ∀ (f i a y : Nat) (r : List UInt8), i + f = 9 → y < room i → (0 < i → y ≠ 0) → unv (f + 1) i a (varF f y ++ r) = (a + y * 128 ^ i, i + (varF f y).length)
  | 0, i, a, y, r, hi, hy, h0 => by
    obtain rfl : i = 9 := by omega
    have hy2 : y < 2 := by rw [room9] at hy; exact hy
    have hc := u8_small (x := y) (by omega)
    rw [varF_small (by omega)]
    simp only [List.cons_append, List.nil_append, unv]
    rw [hc, if_neg (by omega), if_pos (by omega)]
    rfl
  | f + 1, i, a, y, r, hi, hy, h0 => by
    by_cases h : y < 128
    · have hc := u8_small (x := y) (by omega)
      rw [varF_small h]
      simp only [List.cons_append, List.nil_append, unv]
      rw [hc, if_neg (by omega), if_pos h]
      rfl
    · have hc := u8_small (x := y % 128 + 128) (by omega)
      rw [varF_great h]
      simp only [List.cons_append]
      rw [unv, hc, if_neg (by omega), if_neg (by omega)]
      rw [unv_var f (i + 1) _ (y / 128) r (by omega) (room_div (by omega) hy) (by omega)]
      have := mul_step y i
      rw [show (y % 128 + 128) % 128 = y % 128 by omega, Nat.add_assoc, this, List.length_cons]
      congr 1
      omega
theorem room10 : (18446744073709551616 : Nat) < 128 ^ 10 := by decide
theorem varL_9 {x : Nat} (h : x < 18446744073709551616) : varL x = varF 9 x := varF_fuel 10 9 x (Nat.lt_trans h (by decide)) (Nat.lt_trans h room10)
theorem unvar_var (x : Nat) (r : List UInt8) (h : x < 18446744073709551616) : unvarL (varL x ++ r) = (x, (varL x).length) := by
  have := unv_var 9 0 0 x r rfl h (by omega)
  rw [varL_9 h]
  unfold unvarL
  rw [this]
  simp
/-- what was read was written so -/
theorem unv_back : ∀ (f i a : Nat) (l : List UInt8) (x n : Nat), i + f = 9 → unv (f + 1) i a l = (x, n) → n ≠ 0 → ∃ y, x = a + y * 128 ^ i ∧ y < room i ∧ n = i + (varF f y).length ∧ ∃ r, l = varF f y ++ r
  | f, i, a, [], x, n, _, h, hn => by
    simp only [unv, Prod.mk.injEq] at h
    exact absurd h.2.symm hn
  | f, i, a, c :: r, x, n, hi, h, hn => by
    simp only [unv] at h
    split at h
    · simp only [Prod.mk.injEq] at h; exact absurd h.2.symm hn
    · next g =>
      have hc2 : UInt8.ofNat c.toNat = c := by simp
      split at h
      · next hc =>
        simp only [Prod.mk.injEq] at h
        refine ⟨c.toNat, h.1.symm, ?_, by rw [varF_small hc]; exact h.2.symm, r, by rw [varF_small hc, hc2]; rfl⟩
        by_cases h9 : i = 9
        · subst h9; rw [room9]; omega
        · have := room_succ i (by omega)
          have := room_pos (i + 1) (by omega)
          omega
      · next hc =>
        cases f with
        | zero =>
          have h9 : i = 9 := by omega
          exact absurd (Or.inl ⟨h9, by omega⟩) g
        | succ f =>
          obtain ⟨y, e1, e2, e3, t, e4⟩ := unv_back f (i + 1) _ r x n (by omega) h hn
          have hlt := c.toNat_lt
          have hr := room_succ i (by omega)
          have hy0 : y ≠ 0 := by
            intro e
            subst e
            rw [varF_small (by decide)] at e4 e3
            subst e4
            -- the group behind would be a nought
            cases f with
            | zero => simp [unv] at h; exact hn h.2.symm
            | succ f => simp [unv] at h; exact hn h.2.symm
          have hd : (c.toNat % 128 + 128 * y) / 128 = y := by omega
          have hm : (c.toNat % 128 + 128 * y) % 128 = c.toNat % 128 := by omega
          refine ⟨c.toNat % 128 + 128 * y, ?_, by omega, ?_, t, ?_⟩
          · have := mul_step (c.toNat % 128 + 128 * y) i
            rw [hd, hm] at this
            rw [e1, ← this, Nat.add_assoc]
          · rw [varF_great (by omega), hd, List.length_cons, e3]; omega
          · rw [varF_great (by omega), hd, hm, e4, show c.toNat % 128 + 128 = c.toNat by omega, hc2]; rfl
theorem unvar_back {l : List UInt8} {x n : Nat} (h : unvarL l = (x, n)) (hn : n ≠ 0) : x < 18446744073709551616 ∧ n = (varL x).length ∧ l.take n = varL x ∧ n ≤ l.length ∧ n ≤ 10 := by
  obtain ⟨y, e1, e2, e3, r, e4⟩ := unv_back 9 0 0 l x n rfl h hn
  obtain rfl : x = y := by omega
  have hv := varL_9 (x := x) e2
  rw [← hv] at e3 e4
  have := varF_len 9 x
  rw [← hv] at this
  refine ⟨e2, by omega, ?_, by rw [e4]; simp; omega, by omega⟩
  rw [e4, e3, Nat.zero_add, List.take_left]
theorem unvar_le (l : List UInt8) : (unvarL l).2 ≤ l.length ∧ (unvarL l).2 ≤ 10 ∧ (unvarL l).1 < 18446744073709551616 := by
  by_cases h : (unvarL l).2 = 0
  · refine ⟨by omega, by omega, ?_⟩
    have key : ∀ f i a (l : List UInt8), (unv f i a l).2 = 0 → (unv f i a l).1 = 0 := by
      intro f
      induction f with
      | zero => intro i a l _; rfl
      | succ f ih =>
        intro i a l h
        cases l with
        | nil => rfl
        | cons c r =>
          simp only [unv] at h ⊢
          split
          · rfl
          · next g =>
            rw [if_neg g] at h
            split
            · next hc => rw [if_pos hc] at h; simp at h
            · next hc => rw [if_neg hc] at h; exact ih _ _ _ h
    have e : (unvarL l).1 = 0 := key _ _ _ _ h
    rw [e]; decide
  · have := unvar_back (l := l) rfl h
    exact ⟨this.2.2.2.1, this.2.2.2.2, this.1⟩

/-- the sum of groups -/
def sumV : List UInt8 → Nat
  | [] => 0
  | c :: r => c.toNat % 128 + 128 * sumV r
theorem sumV_snoc (l : List UInt8) (c : UInt8) : sumV (l ++ [c]) = sumV l + c.toNat % 128 * 128 ^ l.length := by
  induction l with
  | nil => simp [sumV]
  | cons d r ih =>
    simp only [List.cons_append, sumV, List.length_cons]
    rw [ih, Nat.mul_add, pow128, Nat.add_assoc]
    congr 2
    rw [← Nat.mul_assoc, ← Nat.mul_assoc, Nat.mul_comm 128]
theorem sumV_var : ∀ f x, x < 128 ^ (f + 1) → sumV (varF f x) = x
  | 0, x, h => by
    have h1 : x < 128 := by simpa using h
    have := u8_small (x := x) (by omega)
    rw [varF_small h1]
    simp only [sumV]
    omega
  | f + 1, x, h => by
    by_cases h1 : x < 128
    · have := u8_small (x := x) (by omega)
      rw [varF_small h1]
      simp only [sumV]
      omega
    · have := u8_small (x := x % 128 + 128) (by omega)
      rw [varF_great h1]
      simp only [sumV]
      rw [sumV_var f (x / 128) (by rw [Nat.div_lt_iff_lt_mul (by decide), Nat.mul_comm, ← pow128]; exact h)]
      omega
/-- the document's test at a length -/
theorem try_hit {l : List UInt8} {n y : Nat} (hy : y < 18446744073709551616) (h : varL y = l.take n) (hn : n ≤ l.length) : unvarL l = (y, n) := by
  have e : l = varL y ++ l.drop n := by rw [h, List.take_append_drop]
  have := unvar_var y (l.drop n) hy
  rw [← e, h] at this
  rw [this]
  simp
  omega
theorem try_miss {l : List UInt8} {n : Nat} (h : varL (sumV (l.take n) % 18446744073709551616) ≠ l.take n) (hn : n ≠ 0) : (unvarL l).2 ≠ n := by
  intro e
  obtain ⟨h1, h2, h3, _⟩ := unvar_back (l := l) (x := (unvarL l).1) (n := n) (by rw [← e]) hn
  have hs : sumV (l.take n) = (unvarL l).1 := by
    rw [h3, varL_9 h1]
    exact sumV_var 9 _ (Nat.lt_trans h1 room10)
  rw [hs, Nat.mod_eq_of_lt h1, h3] at h
  exact h rfl
end Go.Proofs.YtaoejgnfoecpfaaDoor
namespace Go.Proofs.YtaoejgnfoecpfaaDoor
set_option linter.unusedVariables false
set_option linter.unusedSimpArgs false
set_option linter.unusedSectionVars false
open Go.RowKit

def bs (l : List UInt8) : ByteArray := ⟨l.toArray⟩
theorem bs_list (l : List UInt8) : (bs l).data.toList = l := by simp [bs]
theorem bs_size (l : List UInt8) : (bs l).size = l.length := rfl
theorem bs_self (s : ByteArray) : bs s.data.toList = s := by
  apply ByteArray.ext
  simp [bs]
theorem bs_inj {a b : List UInt8} (h : bs a = bs b) : a = b := by
  have := congrArg (fun x : ByteArray => x.data.toList) h
  simpa [bs] using this
theorem bs_app (a b : List UInt8) : bs a ++ bs b = bs (a ++ b) := by
  apply ByteArray.ext
  apply Array.toList_inj.1
  simp [bs]
theorem bs_appS (a : List UInt8) (s : ByteArray) : bs a ++ s = bs (a ++ s.data.toList) := by
  rw [← bs_app, bs_self]
theorem ba_inj {a b : ByteArray} (h : a.data.toList = b.data.toList) : a = b := ByteArray.ext (Array.toList_inj.1 h)
theorem ba_len (s : ByteArray) : s.data.toList.length = s.size := by simp
theorem ext_drop (s : ByteArray) (n : Nat) : (s.extract n s.size).data.toList = s.data.toList.drop n := Lib.extract_to_end s n
theorem ext_take (s : ByteArray) (n : Nat) : (s.extract 0 n).data.toList = s.data.toList.take n := Lib.extract_from_zero s n
theorem bs_drop (l : List UInt8) (n : Nat) : (bs l).extract n (bs l).size = bs (l.drop n) := ba_inj (by rw [ext_drop, bs_list, bs_list])
theorem bs_take (l : List UInt8) (n : Nat) : (bs l).extract 0 n = bs (l.take n) := ba_inj (by rw [ext_take, bs_list, bs_list])
/-- a text behind its length -/
def textL (s : ByteArray) : List UInt8 := varL s.size ++ s.data.toList
/-- what a reader's 'take' gives -/
def takS (s : ByteArray) (b : Bool) (n : Nat) : ByteArray × ByteArray × Bool := if s.size < n then (⟨#[]⟩, s, true) else (s.extract 0 n, s.extract n s.size, b)
theorem takS_bad (s : ByteArray) (n : Nat) : (takS s true n).2.2 = true := by unfold takS; split <;> rfl
theorem takS_le (s : ByteArray) (b : Bool) (n : Nat) : (takS s b n).1.size ≤ s.size ∧ (takS s b n).2.1.size ≤ s.size := by
  unfold takS
  split
  · exact ⟨Nat.zero_le _, Nat.le_refl _⟩
  · exact ⟨by simp only [ByteArray.size_extract]; omega, by simp only [ByteArray.size_extract]; omega⟩
theorem takS_app (t r : List UInt8) (b : Bool) : takS (bs (t ++ r)) b t.length = (bs t, bs r, b) := by
  unfold takS
  rw [if_neg (by rw [bs_size, List.length_append]; omega), bs_take, bs_drop, List.take_left, List.drop_left]
theorem takS_back {s t r : ByteArray} {b : Bool} {n : Nat} (h : takS s b n = (t, r, false)) : b = false ∧ s.data.toList = t.data.toList ++ r.data.toList ∧ t.size = n := by
  unfold takS at h
  split at h
  · simp at h
  · simp only [Prod.mk.injEq] at h
    obtain ⟨rfl, rfl, rfl⟩ := h
    refine ⟨rfl, ?_, ?_⟩
    · rw [ext_drop, ext_take, List.take_append_drop]
    · simp only [ByteArray.size_extract]; omega
end Go.Proofs.YtaoejgnfoecpfaaDoor
namespace Go.Proofs.YtaoejgnfoecpfaaDoor
set_option linter.unusedVariables false
set_option linter.unusedSimpArgs false
set_option linter.unusedSectionVars false
open Go.RowKit

/-- a node's record -/
structure Nr where
  kind : Int
  at_ : ByteArray
  mode : Int
  time : Int
  size : Int
  chunks : List ByteArray
  target : ByteArray
deriving DecidableEq
def noB : ByteArray := ⟨#[]⟩
/-- the chunks' bytes, one behind the other -/
def catN (l : List ByteArray) : List UInt8 := (l.map fun c => c.data.toList).flatten
def tailN (x : Nr) : List UInt8 := if x.kind = 2 then varL x.size.toNat ++ varL x.chunks.length ++ catN x.chunks else if x.kind = 3 then textL x.target else []
theorem tailN_1 {x : Nr} (h : x.kind = 1) : tailN x = [] := by unfold tailN; rw [if_neg (by omega), if_neg (by omega)]
theorem tailN_2 {x : Nr} (h : x.kind = 2) : tailN x = varL x.size.toNat ++ varL x.chunks.length ++ catN x.chunks := by unfold tailN; rw [if_pos h]
theorem tailN_3 {x : Nr} (h : x.kind = 3) : tailN x = textL x.target := by unfold tailN; rw [if_neg (by omega), if_pos h]
def txtN (x : Nr) : List UInt8 := varL x.kind.toNat ++ textL x.at_ ++ varL x.mode.toNat ++ varL x.time.toNat ++ tailN x
def bodyN (l : List Nr) : List UInt8 := (l.map txtN).flatten
def encN (l : List Nr) : List UInt8 := varL l.length ++ bodyN l
/-- a number from the front; an error's number is carried along -/
def numE (s : ByteArray) (e : Nat) : Nat × ByteArray × Nat :=
  if e ≠ 0 then (0, s, e) else if (unvarL s.data.toList).2 = 0 ∨ 1099511627776 < (unvarL s.data.toList).1 then (0, s, 3) else ((unvarL s.data.toList).1, s.extract (unvarL s.data.toList).2 s.size, 0)
def takE (s : ByteArray) (e n : Nat) : ByteArray × ByteArray × Nat :=
  if e ≠ 0 then (noB, s, e) else if s.size < n then (noB, s, 6) else (s.extract 0 n, s.extract n s.size, 0)
def chE : Nat → ByteArray → Nat → List ByteArray × ByteArray × Nat
  | 0, s, e => ([], s, e)
  | n + 1, s, e => if e ≠ 0 then ([], s, e) else ((takE s e 32).1 :: (chE n (takE s e 32).2.1 (takE s e 32).2.2).1, (chE n (takE s e 32).2.1 (takE s e 32).2.2).2)
def failE (e c : Nat) : Nat := if e = 0 then c else e
/-- what stands behind the four first -/
def restE (k : Nat) (a : ByteArray) (m t : Nat) (s : ByteArray) (e : Nat) : Nr × ByteArray × Nat :=
  if k = 2 then (⟨2, a, m, t, (numE s e).1, (chE (numE (numE s e).2.1 (numE s e).2.2).1 (numE (numE s e).2.1 (numE s e).2.2).2.1 (numE (numE s e).2.1 (numE s e).2.2).2.2).1, noB⟩, (chE (numE (numE s e).2.1 (numE s e).2.2).1 (numE (numE s e).2.1 (numE s e).2.2).2.1 (numE (numE s e).2.1 (numE s e).2.2).2.2).2)
  else if k = 3 then (⟨3, a, m, t, 0, [], (takE (numE s e).2.1 (numE s e).2.2 (numE s e).1).1⟩, (takE (numE s e).2.1 (numE s e).2.2 (numE s e).1).2)
  else (⟨k, a, m, t, 0, [], noB⟩, s, if k = 1 then e else failE e 3)
def nodeE (s : ByteArray) (e : Nat) : Nr × ByteArray × Nat :=
  restE (numE s e).1 (takE (numE (numE s e).2.1 (numE s e).2.2).2.1 (numE (numE s e).2.1 (numE s e).2.2).2.2 (numE (numE s e).2.1 (numE s e).2.2).1).1
    (numE (takE (numE (numE s e).2.1 (numE s e).2.2).2.1 (numE (numE s e).2.1 (numE s e).2.2).2.2 (numE (numE s e).2.1 (numE s e).2.2).1).2.1 (takE (numE (numE s e).2.1 (numE s e).2.2).2.1 (numE (numE s e).2.1 (numE s e).2.2).2.2 (numE (numE s e).2.1 (numE s e).2.2).1).2.2).1
    (numE (numE (takE (numE (numE s e).2.1 (numE s e).2.2).2.1 (numE (numE s e).2.1 (numE s e).2.2).2.2 (numE (numE s e).2.1 (numE s e).2.2).1).2.1 (takE (numE (numE s e).2.1 (numE s e).2.2).2.1 (numE (numE s e).2.1 (numE s e).2.2).2.2 (numE (numE s e).2.1 (numE s e).2.2).1).2.2).2.1 (numE (takE (numE (numE s e).2.1 (numE s e).2.2).2.1 (numE (numE s e).2.1 (numE s e).2.2).2.2 (numE (numE s e).2.1 (numE s e).2.2).1).2.1 (takE (numE (numE s e).2.1 (numE s e).2.2).2.1 (numE (numE s e).2.1 (numE s e).2.2).2.2 (numE (numE s e).2.1 (numE s e).2.2).1).2.2).2.2).1
    (numE (numE (takE (numE (numE s e).2.1 (numE s e).2.2).2.1 (numE (numE s e).2.1 (numE s e).2.2).2.2 (numE (numE s e).2.1 (numE s e).2.2).1).2.1 (takE (numE (numE s e).2.1 (numE s e).2.2).2.1 (numE (numE s e).2.1 (numE s e).2.2).2.2 (numE (numE s e).2.1 (numE s e).2.2).1).2.2).2.1 (numE (takE (numE (numE s e).2.1 (numE s e).2.2).2.1 (numE (numE s e).2.1 (numE s e).2.2).2.2 (numE (numE s e).2.1 (numE s e).2.2).1).2.1 (takE (numE (numE s e).2.1 (numE s e).2.2).2.1 (numE (numE s e).2.1 (numE s e).2.2).2.2 (numE (numE s e).2.1 (numE s e).2.2).1).2.2).2.2).2.1
    (numE (numE (takE (numE (numE s e).2.1 (numE s e).2.2).2.1 (numE (numE s e).2.1 (numE s e).2.2).2.2 (numE (numE s e).2.1 (numE s e).2.2).1).2.1 (takE (numE (numE s e).2.1 (numE s e).2.2).2.1 (numE (numE s e).2.1 (numE s e).2.2).2.2 (numE (numE s e).2.1 (numE s e).2.2).1).2.2).2.1 (numE (takE (numE (numE s e).2.1 (numE s e).2.2).2.1 (numE (numE s e).2.1 (numE s e).2.2).2.2 (numE (numE s e).2.1 (numE s e).2.2).1).2.1 (takE (numE (numE s e).2.1 (numE s e).2.2).2.1 (numE (numE s e).2.1 (numE s e).2.2).2.2 (numE (numE s e).2.1 (numE s e).2.2).1).2.2).2.2).2.2
/-- the reading as a chain: each step's outcome named -/
theorem nodeE_of {s s1 s2 s3 s4 s5 : ByteArray} {e e1 e2 e3 e4 e5 k n m t : Nat} {a : ByteArray} (h1 : numE s e = (k, s1, e1)) (h2 : numE s1 e1 = (n, s2, e2)) (h3 : takE s2 e2 n = (a, s3, e3)) (h4 : numE s3 e3 = (m, s4, e4)) (h5 : numE s4 e4 = (t, s5, e5)) : nodeE s e = restE k a m t s5 e5 := by
  unfold nodeE
  simp only [h1, h2, h3, h4, h5]
theorem restE_one {k : Nat} (hk : k = 1) (a : ByteArray) (m t : Nat) (s : ByteArray) (e : Nat) : restE k a m t s e = (⟨k, a, m, t, 0, [], noB⟩, s, e) := by
  unfold restE; rw [if_neg (by omega), if_neg (by omega), if_pos hk]
theorem restE_two {s s1 s2 s3 : ByteArray} {e e1 e2 e3 z c m t : Nat} {a : ByteArray} {l : List ByteArray} (h1 : numE s e = (z, s1, e1)) (h2 : numE s1 e1 = (c, s2, e2)) (h3 : chE c s2 e2 = (l, s3, e3)) : restE 2 a m t s e = (⟨2, a, m, t, z, l, noB⟩, s3, e3) := by
  unfold restE
  rw [if_pos rfl]
  simp only [h1, h2, h3]
theorem restE_three {s s1 s2 : ByteArray} {e e1 e2 n m t : Nat} {a g : ByteArray} (h1 : numE s e = (n, s1, e1)) (h2 : takE s1 e1 n = (g, s2, e2)) : restE 3 a m t s e = (⟨3, a, m, t, 0, [], g⟩, s2, e2) := by
  unfold restE
  rw [if_neg (by decide), if_pos rfl]
  simp only [h1, h2]
theorem restE_no {k : Nat} (h1 : k ≠ 1) (h2 : k ≠ 2) (h3 : k ≠ 3) (a : ByteArray) (m t : Nat) (s : ByteArray) (e : Nat) : restE k a m t s e = (⟨k, a, m, t, 0, [], noB⟩, s, failE e 3) := by
  unfold restE; rw [if_neg h2, if_neg h3, if_neg h1]
theorem numE_bad {e : Nat} (h : e ≠ 0) (s : ByteArray) : numE s e = (0, s, e) := if_pos h
theorem takE_bad {e : Nat} (h : e ≠ 0) (s : ByteArray) (n : Nat) : takE s e n = (noB, s, e) := if_pos h
theorem chE_bad {e : Nat} (h : e ≠ 0) (s : ByteArray) (n : Nat) : chE n s e = ([], s, e) := by
  cases n with
  | zero => rfl
  | succ n => simp only [chE]; rw [if_pos h]
theorem numE_le (s : ByteArray) (e : Nat) : (numE s e).1 ≤ 1099511627776 ∧ (numE s e).2.1.size ≤ s.size := by
  unfold numE
  split
  · exact ⟨Nat.zero_le _, Nat.le_refl _⟩
  · split
    · exact ⟨Nat.zero_le _, Nat.le_refl _⟩
    · exact ⟨by simp only; omega, by simp only [ByteArray.size_extract]; omega⟩
theorem takE_le (s : ByteArray) (e n : Nat) : (takE s e n).1.size ≤ s.size ∧ (takE s e n).2.1.size ≤ s.size := by
  unfold takE
  split
  · exact ⟨Nat.zero_le _, Nat.le_refl _⟩
  · split
    · exact ⟨Nat.zero_le _, Nat.le_refl _⟩
    · exact ⟨by simp only [ByteArray.size_extract]; omega, by simp only [ByteArray.size_extract]; omega⟩
theorem numE_var (x : Nat) (r : List UInt8) (h : x ≤ 1099511627776) : numE (bs (varL x ++ r)) 0 = (x, bs r, 0) := by
  have hu := unvar_var x r (by omega)
  have hl : 1 ≤ (varL x).length := (varF_len 10 x).1
  unfold numE
  rw [bs_list, hu]
  simp only
  rw [if_neg (by decide), if_neg (by omega), bs_drop, List.drop_left]
theorem takE_app (t r : List UInt8) : takE (bs (t ++ r)) 0 t.length = (bs t, bs r, 0) := by
  unfold takE
  rw [if_neg (by decide), if_neg (by rw [bs_size, List.length_append]; omega), bs_take, bs_drop, List.take_left, List.drop_left]
theorem takE_text (t : ByteArray) (r : List UInt8) : takE (bs (t.data.toList ++ r)) 0 t.size = (t, bs r, 0) := by
  have := takE_app t.data.toList r
  rwa [ba_len, bs_self] at this
theorem chE_cat : ∀ (l : List ByteArray) (r : List UInt8), (∀ c ∈ l, c.size = 32) → chE l.length (bs (catN l ++ r)) 0 = (l, bs r, 0)
  | [], _, _ => rfl
  | c :: l, r, h => by
    have ht := takE_text c (catN l ++ r)
    rw [h c (by simp)] at ht
    have e : catN (c :: l) ++ r = c.data.toList ++ (catN l ++ r) := by simp [catN]
    rw [e]
    simp only [List.length_cons, chE]
    rw [ht]
    simp only [ne_eq, not_true, if_false]
    rw [chE_cat l r (fun x hx => h x (by simp [hx]))]
/-- a record whose fields fit, and that bears no others than its kind's -/
structure NrFit (x : Nr) : Prop where
  k1 : 1 ≤ x.kind ∧ x.kind ≤ 3
  at_ : x.at_.size ≤ 1099511627776
  mode : 0 ≤ x.mode ∧ x.mode ≤ 1099511627776
  time : 0 ≤ x.time ∧ x.time ≤ 1099511627776
  two : x.kind = 2 → (0 ≤ x.size ∧ x.size ≤ 1099511627776) ∧ x.chunks.length ≤ 1099511627776 ∧ ∀ c ∈ x.chunks, c.size = 32
  no2 : x.kind ≠ 2 → x.size = 0 ∧ x.chunks = []
  three : x.kind = 3 → x.target.size ≤ 1099511627776
  no3 : x.kind ≠ 3 → x.target = noB
theorem nodeE_text {x : Nr} (h : NrFit x) (r : List UInt8) : nodeE (bs (txtN x ++ r)) 0 = (x, bs r, 0) := by
  obtain ⟨kind, a, mode, time, size, chunks, target⟩ := x
  obtain ⟨⟨k1, k2⟩, ha, ⟨m1, m2⟩, ⟨t1, t2⟩, h2, hn2, h3, hn3⟩ := h
  simp only at *
  obtain ⟨k, rfl⟩ : ∃ k : Nat, kind = k := ⟨kind.toNat, by omega⟩
  obtain ⟨m, rfl⟩ : ∃ k : Nat, mode = k := ⟨mode.toNat, by omega⟩
  obtain ⟨t, rfl⟩ : ∃ k : Nat, time = k := ⟨time.toNat, by omega⟩
  have e0 : ∀ y : List UInt8, txtN ⟨k, a, m, t, size, chunks, target⟩ ++ y = varL k ++ (varL a.size ++ (a.data.toList ++ (varL m ++ (varL t ++ (tailN ⟨k, a, m, t, size, chunks, target⟩ ++ y))))) := by
    intro y
    unfold txtN textL
    simp only [List.append_assoc]
    rfl
  rw [e0]
  rw [nodeE_of (numE_var k _ (by omega)) (numE_var a.size _ ha) (takE_text a _) (numE_var m _ (by omega)) (numE_var t _ (by omega))]
  rcases (by omega : k = 1 ∨ k = 2 ∨ k = 3) with rfl | rfl | rfl
  · obtain ⟨rfl, rfl⟩ := hn2 (by decide)
    obtain rfl := hn3 (by decide)
    rw [restE_one rfl]
    rw [tailN_1 rfl]
    rfl
  · obtain ⟨⟨z1, z2⟩, hl, hc⟩ := h2 rfl
    obtain rfl := hn3 (by decide)
    obtain ⟨z, rfl⟩ : ∃ k : Nat, size = k := ⟨size.toNat, by omega⟩
    have : tailN ⟨((2 : Nat) : Int), a, m, t, z, chunks, noB⟩ ++ r = varL z ++ (varL chunks.length ++ (catN chunks ++ r)) := by
      rw [tailN_2 rfl]
      simp only [List.append_assoc]
      rfl
    rw [this, restE_two (numE_var z _ (by omega)) (numE_var chunks.length _ hl) (chE_cat chunks r hc)]
    rfl
  · obtain ⟨rfl, rfl⟩ := hn2 (by decide)
    have : tailN ⟨((3 : Nat) : Int), a, m, t, 0, [], target⟩ ++ r = varL target.size ++ (target.data.toList ++ r) := by
      rw [tailN_3 rfl]
      unfold textL
      simp only [List.append_assoc]
    rw [this, restE_three (numE_var target.size _ (h3 rfl)) (takE_text target r)]
    rfl
/-- so many nodes -/
def nodesE : Nat → ByteArray → Nat → List Nr × ByteArray × Nat
  | 0, s, e => ([], s, e)
  | n + 1, s, e => if e ≠ 0 then ([], s, e) else ((nodeE s e).1 :: (nodesE n (nodeE s e).2.1 (nodeE s e).2.2).1, (nodesE n (nodeE s e).2.1 (nodeE s e).2.2).2)
theorem nodesE_body : ∀ (l : List Nr) (r : List UInt8), (∀ x ∈ l, NrFit x) → nodesE l.length (bs (bodyN l ++ r)) 0 = (l, bs r, 0)
  | [], _, _ => rfl
  | x :: l, r, h => by
    have e : bodyN (x :: l) ++ r = txtN x ++ (bodyN l ++ r) := by simp [bodyN]
    rw [e]
    simp only [List.length_cons, nodesE]
    rw [nodeE_text (h x (by simp))]
    simp only [ne_eq, not_true, if_false]
    rw [nodesE_body l r (fun y hy => h y (by simp [hy]))]
/-- what was read is written as it was -/
theorem numE_back {s r : ByteArray} {e x : Nat} (h : numE s e = (x, r, 0)) : e = 0 ∧ s.data.toList = varL x ++ r.data.toList ∧ x ≤ 1099511627776 := by
  unfold numE at h
  split at h
  · next he => simp only [Prod.mk.injEq] at h; exact absurd h.2.2 he
  · next he =>
    split at h
    · simp at h
    · next hc =>
      simp only [Prod.mk.injEq] at h
      obtain ⟨rfl, rfl, _⟩ := h
      have hb := unvar_back (l := s.data.toList) (x := (unvarL s.data.toList).1) (n := (unvarL s.data.toList).2) rfl (fun e => hc (Or.inl e))
      refine ⟨by omega, ?_, by omega⟩
      rw [ext_drop, ← hb.2.2.1, List.take_append_drop]
theorem takE_back {s t r : ByteArray} {e n : Nat} (h : takE s e n = (t, r, 0)) : e = 0 ∧ s.data.toList = t.data.toList ++ r.data.toList ∧ t.size = n := by
  unfold takE at h
  split at h
  · next he => simp only [Prod.mk.injEq] at h; exact absurd h.2.2 he
  · next he =>
    split at h
    · simp at h
    · simp only [Prod.mk.injEq] at h
      obtain ⟨rfl, rfl, _⟩ := h
      refine ⟨by omega, ?_, ?_⟩
      · rw [ext_drop, ext_take, List.take_append_drop]
      · simp only [ByteArray.size_extract]; omega
theorem chE_back : ∀ (n : Nat) {s r : ByteArray} {e : Nat} {l : List ByteArray}, chE n s e = (l, r, 0) → e = 0 ∧ s.data.toList = catN l ++ r.data.toList ∧ l.length = n ∧ ∀ c ∈ l, c.size = 32
  | 0, s, r, e, l, h => by
    simp only [chE, Prod.mk.injEq] at h
    obtain ⟨rfl, rfl, rfl⟩ := h
    exact ⟨rfl, rfl, rfl, fun _ h => by cases h⟩
  | n + 1, s, r, e, l, h => by
    by_cases he : e = 0
    · subst he
      rcases ht : takE s 0 32 with ⟨t, s2, e2⟩
      rcases hl : chE n s2 e2 with ⟨l', r', e'⟩
      simp only [chE, ht, hl, ne_eq, not_true, if_false, Prod.mk.injEq] at h
      obtain ⟨rfl, rfl, rfl⟩ := h
      obtain ⟨rfl, h2, h3, h5⟩ := chE_back n hl
      obtain ⟨_, h4, h6⟩ := takE_back ht
      refine ⟨rfl, ?_, by simp [h3], fun c hc => ?_⟩
      · rw [h4, h2]; simp [catN]
      · rcases List.mem_cons.1 hc with rfl | hc
        · exact h6
        · exact h5 c hc
    · rw [chE_bad he] at h
      simp only [Prod.mk.injEq] at h
      exact absurd h.2.2 he
theorem nodeE_back {s r : ByteArray} {e : Nat} {x : Nr} (h : nodeE s e = (x, r, 0)) (hs : s.size ≤ 1099511627776) : e = 0 ∧ s.data.toList = txtN x ++ r.data.toList ∧ NrFit x := by
  rcases h1 : numE s e with ⟨k, s1, e1⟩
  rcases h2 : numE s1 e1 with ⟨n, s2, e2⟩
  rcases h3 : takE s2 e2 n with ⟨a, s3, e3⟩
  rcases h4 : numE s3 e3 with ⟨m, s4, e4⟩
  rcases h5 : numE s4 e4 with ⟨t, s5, e5⟩
  rw [nodeE_of h1 h2 h3 h4 h5] at h
  have key : e5 = 0 → e = 0 ∧ s.data.toList = varL k ++ (varL a.size ++ (a.data.toList ++ (varL m ++ (varL t ++ s5.data.toList)))) ∧ a.size ≤ 1099511627776 ∧ m ≤ 1099511627776 ∧ t ≤ 1099511627776 ∧ s5.size ≤ 1099511627776 := by
    rintro rfl
    obtain ⟨rfl, a5, b5⟩ := numE_back h5
    obtain ⟨rfl, a4, b4⟩ := numE_back h4
    obtain ⟨rfl, a3, b3⟩ := takE_back h3
    obtain ⟨rfl, a2, b2⟩ := numE_back h2
    obtain ⟨rfl, a1, b1⟩ := numE_back h1
    have z1 := (numE_le s 0).2
    have z2 := (numE_le s1 0).2
    have z3 := (takE_le s2 0 n).2
    have z4 := (numE_le s3 0).2
    have z5 := (numE_le s4 0).2
    rw [h1] at z1
    rw [h2] at z2
    rw [h3] at z3
    rw [h4] at z4
    rw [h5] at z5
    simp only at z1 z2 z3 z4 z5
    exact ⟨rfl, by rw [a1, a2, a3, a4, a5, b3], by omega, b4, b5, by omega⟩
  by_cases k2 : k = 2
  · subst k2
    rcases h6 : numE s5 e5 with ⟨z, s6, e6⟩
    rcases h7 : numE s6 e6 with ⟨c, s7, e7⟩
    rcases h8 : chE c s7 e7 with ⟨l, s8, e8⟩
    rw [restE_two h6 h7 h8] at h
    simp only [Prod.mk.injEq] at h
    obtain ⟨rfl, rfl, rfl⟩ := h
    obtain ⟨rfl, a8, b8, c8⟩ := chE_back _ h8
    obtain ⟨rfl, a7, b7⟩ := numE_back h7
    obtain ⟨rfl, a6, b6⟩ := numE_back h6
    obtain ⟨rfl, ha, q1, q2, q3, _⟩ := key rfl
    refine ⟨rfl, ?_, ⟨by simp only; omega, by simp only; omega⟩, q1, ⟨by simp only; omega, by simp only; omega⟩, ⟨by simp only; omega, by simp only; omega⟩, fun _ => ⟨⟨by simp only; omega, by simp only; omega⟩, by simp only; omega, c8⟩, (fun h => absurd rfl h), (fun h => absurd h (by simp)), fun _ => rfl⟩
    rw [ha, a6, a7, a8]
    unfold txtN textL
    rw [tailN_2 rfl]
    simp only [List.append_assoc, b8]
    rfl
  · by_cases k3 : k = 3
    · subst k3
      rcases h6 : numE s5 e5 with ⟨c, s6, e6⟩
      rcases h7 : takE s6 e6 c with ⟨g, s7, e7⟩
      rw [restE_three h6 h7] at h
      simp only [Prod.mk.injEq] at h
      obtain ⟨rfl, rfl, rfl⟩ := h
      obtain ⟨rfl, a7, b7⟩ := takE_back h7
      obtain ⟨rfl, a6, b6⟩ := numE_back h6
      obtain ⟨rfl, ha, q1, q2, q3, _⟩ := key rfl
      refine ⟨rfl, ?_, ⟨by simp only; omega, by simp only; omega⟩, q1, ⟨by simp only; omega, by simp only; omega⟩, ⟨by simp only; omega, by simp only; omega⟩, (fun h => absurd h (by simp)), (fun _ => ⟨rfl, rfl⟩), (fun _ => by simp only; omega), (fun h => absurd rfl h)⟩
      rw [ha, a6, a7]
      unfold txtN
      rw [tailN_3 rfl]
      unfold textL
      simp only [List.append_assoc, b7]
      rfl
    · by_cases k1 : k = 1
      · subst k1
        rw [restE_one rfl] at h
        simp only [Prod.mk.injEq] at h
        obtain ⟨rfl, rfl, rfl⟩ := h
        obtain ⟨rfl, ha, q1, q2, q3, _⟩ := key rfl
        refine ⟨rfl, ?_, ⟨by simp only; omega, by simp only; omega⟩, q1, ⟨by simp only; omega, by simp only; omega⟩, ⟨by simp only; omega, by simp only; omega⟩, (fun h => absurd h (by simp)), (fun _ => ⟨rfl, rfl⟩), (fun h => absurd h (by simp)), fun _ => rfl⟩
        rw [ha]
        unfold txtN textL
        rw [tailN_1 rfl]
        simp only [List.append_assoc, List.append_nil]
        rfl
      · rw [restE_no k1 k2 k3] at h
        simp only [Prod.mk.injEq] at h
        have := h.2.2
        unfold failE at this
        split at this <;> omega
theorem nodesE_bad {e : Nat} (h : e ≠ 0) (s : ByteArray) (n : Nat) : nodesE n s e = ([], s, e) := by
  cases n with
  | zero => rfl
  | succ n => simp only [nodesE]; rw [if_pos h]
theorem nodeE_size (s : ByteArray) (e : Nat) : (nodeE s e).2.1.size ≤ s.size := by
  rcases h1 : numE s e with ⟨k, s1, e1⟩
  rcases h2 : numE s1 e1 with ⟨n, s2, e2⟩
  rcases h3 : takE s2 e2 n with ⟨a, s3, e3⟩
  rcases h4 : numE s3 e3 with ⟨m, s4, e4⟩
  rcases h5 : numE s4 e4 with ⟨t, s5, e5⟩
  have z1 := (numE_le s e).2
  have z2 := (numE_le s1 e1).2
  have z3 := (takE_le s2 e2 n).2
  have z4 := (numE_le s3 e3).2
  have z5 := (numE_le s4 e4).2
  rw [h1] at z1
  rw [h2] at z2
  rw [h3] at z3
  rw [h4] at z4
  rw [h5] at z5
  simp only at z1 z2 z3 z4 z5
  have hch : ∀ (n : Nat) (s : ByteArray) (e : Nat), (chE n s e).2.1.size ≤ s.size := by
    intro n
    induction n with
    | zero => intro s e; exact Nat.le_refl _
    | succ n ih =>
      intro s e
      simp only [chE]
      split
      · exact Nat.le_refl _
      · exact Nat.le_trans (ih _ _) (takE_le s e 32).2
  rw [nodeE_of h1 h2 h3 h4 h5]
  unfold restE
  split
  · exact Nat.le_trans (hch _ _ _) (Nat.le_trans (numE_le _ _).2 (Nat.le_trans (numE_le _ _).2 (by omega)))
  · split
    · exact Nat.le_trans (takE_le _ _ _).2 (Nat.le_trans (numE_le _ _).2 (by omega))
    · simp only; omega
theorem nodesE_back : ∀ (n : Nat) {s r : ByteArray} {e : Nat} {l : List Nr}, nodesE n s e = (l, r, 0) → s.size ≤ 1099511627776 → e = 0 ∧ s.data.toList = bodyN l ++ r.data.toList ∧ l.length = n ∧ ∀ x ∈ l, NrFit x
  | 0, s, r, e, l, h, _ => by
    simp only [nodesE, Prod.mk.injEq] at h
    obtain ⟨rfl, rfl, rfl⟩ := h
    exact ⟨rfl, rfl, rfl, fun _ h => by cases h⟩
  | n + 1, s, r, e, l, h, hs => by
    by_cases he : e = 0
    · subst he
      rcases ht : nodeE s 0 with ⟨t, s2, e2⟩
      rcases hl : nodesE n s2 e2 with ⟨l', r', e'⟩
      simp only [nodesE, ht, hl, ne_eq, not_true, if_false, Prod.mk.injEq] at h
      obtain ⟨rfl, rfl, rfl⟩ := h
      have hz := nodeE_size s 0
      rw [ht] at hz
      obtain ⟨rfl, h2, h3, h5⟩ := nodesE_back n hl (Nat.le_trans hz hs)
      obtain ⟨_, h4, h6⟩ := nodeE_back ht hs
      refine ⟨rfl, ?_, by simp [h3], fun c hc => ?_⟩
      · rw [h4, h2]; simp [bodyN]
      · rcases List.mem_cons.1 hc with rfl | hc
        · exact h6
        · exact h5 c hc
    · rw [nodesE_bad he] at h
      simp only [Prod.mk.injEq] at h
      exact absurd h.2.2 he
end Go.Proofs.YtaoejgnfoecpfaaDoor
namespace Go.Proofs.YtaoejgnfoecpfaaDoor
set_option linter.unusedVariables false
set_option linter.unusedSimpArgs false
set_option linter.unusedSectionVars false
open Go.RowKit

/-- the class: worlds in which nothing of what there was has changed -/
theorem wp_region_below {P : Program} {id : Nat} {Q : Exit → Act → World → Prop} {a : Act} {w : World} {l : List Oper} (hm : P.follows .mixedOrders = true) (hB : Region.lexB .any l.toArray = true)
    (h : wpQuiet P l.toArray (fun W => Below w.heap.size w W) (fun a' => ∀ w', Below w.heap.size w w' → Q .normal a' w') l a) : (Code.region id l.toArray true).wp P Q a w :=
  wp_region_quiet (C := fun W => Below w.heap.size w W) hm hB (Below.refl _ w).drew (by simpa using h)
end Go.Proofs.YtaoejgnfoecpfaaDoor
namespace Go.Proofs.YtaoejgnfoecpfaaDoor
set_option linter.unusedVariables false
set_option linter.unusedSimpArgs false
set_option linter.unusedSectionVars false
open Go.RowKit

theorem ready_mem {md : Region.Mode} {ops : Array Oper} {listed : Array Bool} {i : Nat} (h : i ∈ Region.ready md ops listed) : i < ops.size ∧ listed.getD i true = false := by
  unfold Region.ready at h
  obtain ⟨h1, h2⟩ := List.mem_filter.1 h
  simp only [Bool.and_eq_true, Bool.not_eq_true'] at h2
  exact ⟨List.mem_range.1 h1, h2.1⟩
/-- how many are still to be done -/
def undone (l : Array Bool) : Nat := l.toList.count false
theorem undone_set {l : Array Bool} {i : Nat} (h : l.getD i true = false) : undone (l.setIfInBounds i true) + 1 = undone l := by
  obtain ⟨xs⟩ := l
  unfold undone
  have hi : xs[i]? = some false := by
    have : xs[i]?.getD true = false := by simpa [Array.getD_eq_getD_getElem?] using h
    cases hx : xs[i]? with
    | none => rw [hx] at this; cases this
    | some b => rw [hx] at this; simpa using this
  simp only [List.setIfInBounds_toArray]
  clear h
  induction xs generalizing i with
  | nil => simp at hi
  | cons x r ih =>
    cases i with
    | zero => simp only [List.getElem?_cons_zero, Option.some.injEq] at hi; subst hi; simp
    | succ i =>
      simp only [List.getElem?_cons_succ] at hi
      have := ih hi
      simp only [List.set_cons_succ, List.count_cons]
      omega
theorem wpAny_inv {P : Program} {md : Region.Mode} {ops : Array Oper} {Q : Exit → Act → World → Prop} (I : Array Bool → Act → World → Prop)
    (hdone : ∀ l a w, I l a w → Region.ready md ops l = [] → Q .normal a w)
    (hstep : ∀ l a w, I l a w → ∀ i ∈ Region.ready md ops l, wpOp P ops Q i (I (l.setIfInBounds i true)) a w) :
    ∀ fuel l a w, undone l ≤ fuel → I l a w → wpAny P md ops Q fuel l a w := by
  intro fuel
  induction fuel with
  | zero =>
    intro l a w hu hi
    have he : Region.ready md ops l = [] := by
      rw [List.eq_nil_iff_forall_not_mem]
      intro i hr
      have h := ready_mem hr
      have := undone_set h.2
      omega
    exact ⟨he, hdone l a w hi he⟩
  | succ fuel ih =>
    intro l a w hu hi
    refine ⟨hdone l a w hi, fun i hr => ?_⟩
    have h := ready_mem hr
    have hu' := undone_set h.2
    exact wpOp_mono (fun a' w' hI => ih _ a' w' (by omega) hI) (hstep l a w hi i hr)
theorem undone_all (n : Nat) : undone (Array.replicate n false) = n := by simp [undone]
/-- the rule -/
theorem wp_region_inv {P : Program} {id : Nat} {ops : Array Oper} {Q : Exit → Act → World → Prop} {a : Act} {w : World} (hm : P.follows .mixedOrders = true) (I : Array Bool → Act → World → Prop)
    (h0 : I (Array.replicate ops.size false) a w.drew)
    (hdone : ∀ l a w, I l a w → Region.ready .any ops l = [] → Q .normal a w)
    (hstep : ∀ l a w, I l a w → ∀ i ∈ Region.ready .any ops l, wpOp P ops Q i (I (l.setIfInBounds i true)) a w) : (Code.region id ops true).wp P Q a w :=
  wp_region_any hm (wpAny_inv I hdone hstep _ _ _ _ (Nat.le_of_eq (undone_all _)) h0)
/-- the same, the invariant told of the frame at the beginning -/
theorem wp_region_inv2 {P : Program} {id : Nat} {ops : Array Oper} {Q : Exit → Act → World → Prop} {a : Act} {w : World} (hm : P.follows .mixedOrders = true) (J : Act → Array Bool → Act → World → Prop)
    (h0 : J a (Array.replicate ops.size false) a w.drew)
    (hdone : ∀ l a' w', J a l a' w' → Region.ready .any ops l = [] → Q .normal a' w')
    (hstep : ∀ l a' w', J a l a' w' → ∀ i ∈ Region.ready .any ops l, wpOp P ops Q i (J a (l.setIfInBounds i true)) a' w') : (Code.region id ops true).wp P Q a w :=
  wp_region_inv hm (J a) h0 hdone hstep
theorem ready_dep {md : Region.Mode} {ops : Array Oper} {listed : Array Bool} {i : Nat} (h : i ∈ Region.ready md ops listed) : i < ops.size ∧ listed.getD i true = false ∧ ((ops[i]?).map (·.after.all fun e => !Region.binds md e || listed.getD e.on false)).getD false = true := by
  unfold Region.ready at h
  obtain ⟨h1, h2⟩ := List.mem_filter.1 h
  simp only [Bool.and_eq_true, Bool.not_eq_true'] at h2
  exact ⟨List.mem_range.1 h1, h2.1, h2.2⟩
theorem ready_nil {md : Region.Mode} {ops : Array Oper} {listed : Array Bool} (h : Region.ready md ops listed = []) (i : Nat) (hi : i < ops.size) : listed.getD i true = true ∨ ((ops[i]?).map (·.after.all fun e => !Region.binds md e || listed.getD e.on false)).getD false = false := by
  unfold Region.ready at h
  rw [List.filter_eq_nil_iff] at h
  have := h i (List.mem_range.2 hi)
  simp only [Bool.and_eq_true, Bool.not_eq_true', not_and] at this
  cases hl : listed.getD i true with
  | true => exact Or.inl rfl
  | false => exact Or.inr (by simpa using this hl)
end Go.Proofs.YtaoejgnfoecpfaaDoor
