/- The document's index: Add, the plain law; rows in memory. -/
import Derived.Test.YtopmanmjggcfaaaJa
namespace Go.Proofs.Ytopmanmjggcfaaa
open Go.RowKit

/-- a place more, where it belongs -/
def insR (p : Pl) : List Pl → List Pl
  | [] => [p]
  | q :: r => if p.head.name.data.toList < q.head.name.data.toList then p :: q :: r else q :: insR p r
theorem keyed_insR (p : Pl) : ∀ L : List Pl, keyed (insR p L) = kvIns (p.head.name, p) (keyed L)
  | [] => rfl
  | q :: r => by
    have ih := keyed_insR p r
    unfold insR
    show keyed (if _ then _ else _) = kvIns (p.head.name, p) ((q.head.name, q) :: keyed r)
    unfold kvIns
    simp only
    rw [before_lt]
    by_cases h : p.head.name.data.toList < q.head.name.data.toList
    · rw [if_pos h, if_pos (by simpa using h)]; rfl
    · rw [if_neg h, if_neg (by simpa using h), ← ih]; rfl
/-- a head more -/
def addR (pack : ByteArray) (L : List Pl) (h : Hd) : List Pl := if (kvGet (keyed L) h.name).isSome then L else insR ⟨pack, h⟩ L
theorem keyed_addR (pack : ByteArray) (L : List Pl) (h : Hd) : keyed (addR pack L h) = addH pack (keyed L) h := by
  unfold addR addH
  cases hg : kvGet (keyed L) h.name with
  | some p => rfl
  | none =>
    rw [if_neg (by simp), if_neg (by simp), keyed_insR]
    unfold kvPut
    rw [kvDel_noop (kvGet_none_iff hg)]
theorem keyed_adds (pack : ByteArray) : ∀ (hs : List Hd) (L : List Pl), keyed (hs.foldl (addR pack) L) = hs.foldl (addH pack) (keyed L)
  | [], _ => rfl
  | h :: r, L => by rw [List.foldl_cons, List.foldl_cons, keyed_adds pack r, keyed_addR]
theorem keyed_len (L : List Pl) : (keyed L).length = L.length := by unfold keyed; rw [List.length_map]
theorem keyed_vals (L : List Pl) : (keyed L).map (·.2) = L := by
  unfold keyed
  rw [List.map_map]
  exact List.map_id L
/-- inserting, place by place -/
theorem insR_lo {p : Pl} : ∀ {l m : List Pl}, (∀ q ∈ l, ¬ p.head.name.data.toList < q.head.name.data.toList) → insR p (l ++ m) = l ++ insR p m
  | [], _, _ => rfl
  | q :: r, m, h => by
    rw [List.cons_append, insR, if_neg (h q (by simp)), insR_lo (fun q hq => h q (by simp [hq]))]
    rfl
theorem insR_hit {p : Pl} {L : List Pl} {k : Nat} (hk : k < L.length) (h : ∀ q ∈ L.take k, ¬ p.head.name.data.toList < q.head.name.data.toList) (hp : p.head.name.data.toList < L[k].head.name.data.toList) : insR p L = L.take k ++ p :: L[k] :: L.drop (k + 1) := by
  conv => lhs; rw [← List.take_append_drop k L, List.drop_eq_getElem_cons hk]
  rw [insR_lo h, insR, if_pos hp]
theorem insR_end {p : Pl} {L : List Pl} (h : ∀ q ∈ L, ¬ p.head.name.data.toList < q.head.name.data.toList) : insR p L = L ++ [p] := by
  have := insR_lo (m := []) h
  rwa [List.append_nil] at this

theorem own_rowA {w : World} {B n k c : Nat} {t : TypeId} {A : Option Addr} {l : List (List Value)} (hk : 0 < k) (hc : ∀ x ∈ l, x.length = k) (h : w.ownsRow B t k (.slice A n c) n l.flatten) : RowA w w.heap.size k A l ∧ n = l.length := by
  have hfl : l.flatten.length = l.length * k := by
    clear h
    induction l with
    | nil => simp
    | cons y r ih => rw [List.flatten_cons, List.length_append, hc y (by simp), ih (fun x hx => hc x (by simp [hx])), List.length_cons, Nat.succ_mul]; omega
  have hn : n = l.length := by
    have := h.1
    rw [hfl] at this
    exact Nat.eq_of_mul_eq_mul_right hk this.symm
  refine ⟨fun hl => ?_, hn⟩
  rcases h.2 with ⟨hv, _⟩ | ⟨g, cap, cur, hv, _⟩
  · simp at hv; omega
  · simp only [Value.slice.injEq] at hv
    obtain ⟨rfl, _, rfl⟩ := hv
    refine ⟨g, 0, rfl, (h.lt g rfl).2, fun i x hi j u hj => ?_⟩
    have hil : i < l.length := (List.getElem?_eq_some_iff.1 hi).1
    have hx := hc x (List.mem_of_getElem? hi)
    have hjl : j < k := by have := (List.getElem?_eq_some_iff.1 hj).1; omega
    have hb : i * k + j < n * k := by
      rw [hn]
      calc i * k + j < i * k + k := by omega
        _ = (i + 1) * k := by rw [Nat.succ_mul]
        _ ≤ l.length * k := Nat.mul_le_mul_right k hil
    rw [Nat.zero_add, h.cellAt (i * k + j) hb]
    have key : ∀ (l : List (List Value)) (i : Nat), (∀ x ∈ l, x.length = k) → l[i]? = some x → l.flatten[i * k + j]? = some u := by
      intro l
      induction l with
      | nil => intro i _ hi; simp at hi
      | cons y r ih =>
        intro i hc hi
        rw [List.flatten_cons]
        have hy := hc y (by simp)
        cases i with
        | zero =>
          simp only [List.getElem?_cons_zero, Option.some.injEq] at hi
          subst hi
          rw [Nat.zero_mul, Nat.zero_add, List.getElem?_append_left (by omega)]
          exact hj
        | succ i =>
          simp only [List.getElem?_cons_succ] at hi
          rw [List.getElem?_append_right (by rw [hy, Nat.succ_mul]; omega), hy]
          have e : (i + 1) * k + j - k = i * k + j := by rw [Nat.succ_mul]; omega
          rw [e]
          exact ih i (fun x hx => hc x (by simp [hx])) hi
    exact key l i hc hi
theorem own_formk {w : World} {B n k : Nat} {t : TypeId} {v : Value} {xs : List Value} (h : w.ownsRow B t k v n xs) : ∃ A c, v = .slice A n c ∧ n ≤ c ∧ (A = none → c = 0) := by
  rcases h.2 with ⟨hv, hn⟩ | ⟨g, cap, cur, hv, _, _, hc, _⟩
  · exact ⟨none, 0, by rw [hv, hn], by omega, fun _ => rfl⟩
  · exact ⟨some ⟨g, 0, none⟩, cap, hv, hc, fun h => by cases h⟩
set_option maxRecDepth 100000 in
/-- append of a row of texts -/
theorem wpList_appStrs {w : World} {ops : Array Oper} {rest : List Oper} {o : Oper} {a : Act} {Q : Exit → Act → World → Prop} (hgd : o.guard = none) (s x : Operand)
    (ho : o.op = .call { callee := .builtin .append, args := #[s, x], argTypes := #[25, 25] })
    (base : Nat) (v : Value) (n : Nat) (xs : List Value) (hs : a.eval s = v) (hown : w.ownsRow base 9 1 v n xs)
    (A : Option Addr) (c : Nat) (l : List ByteArray) (hx : a.eval x = .slice A l.length c) (hst : StrsA w w.heap.size A l) (hn : A = none → c = 0)
    (hbytes : (n + l.length) * 16 ≤ 140737488355328) (hbase : base ≤ w.heap.size)
    (h : ∀ A' c' w', w'.ownsRow base 9 1 (.slice A' (n + l.length) c') (n + l.length) (xs ++ strsV l) → w.grownBy w' v.ownBlock → (A' = none → c' = 0) → ((Value.slice A' (n + l.length) c').ownBlock = v.ownBlock ∨ (Value.slice A' (n + l.length) c').ownBlock = some w.heap.size) → wpList Try.prog ops Q rest (a.put o.dst (.slice A' (n + l.length) c')) w') :
    wpList Try.prog ops Q (o :: rest) a w := by
  obtain ⟨i0, hi, hz0, hz1, hz2⟩ := info_parts infoS
  cases A with
  | none =>
    obtain rfl := hn rfl
    have hl : l = [] := by
      cases l with
      | nil => rfl
      | cons y r =>
        obtain ⟨b, o, e, _⟩ := hst (by simp)
        cases e
    subst hl
    obtain ⟨A', c', rfl, hc, hnn⟩ := own_formk hown
    refine wpList_append_own_none hgd s x 25 ho base 9 i0 1 Try.underlying25 hi _ n xs hs hown hx ?_
    exact h A' c' w (by simpa [strsV] using hown) ⟨rfl, rfl, rfl, Nat.le_refl _, fun _ _ _ => rfl⟩ hnn (Or.inl rfl)
  | some ad =>
    refine wpList_append_own_at _ hgd s x 25 ho base 9 i0 _ 1 16 Try.underlying25 hi hz0 hz1 hz2 rfl (by decide) v n xs hs hown ad l.length c (strsV l) hx (by simp [strsV]) ?_ ?_ (by unfold maxLen; omega) hbytes hbase ?_
    · intro j u hj
      have hjl : j < l.length := by
        have := (List.getElem?_eq_some_iff.1 hj).1
        simpa [strsV] using this
      obtain ⟨b, o, h1, h2, h3⟩ := hst (by omega)
      injection h1 with h1
      subst h1
      rw [addr_add]
      simp only [strsV, List.getElem?_map, List.getElem?_eq_getElem hjl, Option.map_some, Option.some.injEq] at hj
      subst hj
      exact h3 j l[j] (List.getElem?_eq_getElem hjl)
    · intro u hu
      simp only [strsV, List.mem_map] at hu
      obtain ⟨x, _, rfl⟩ := hu
      rfl
    · intro v' w' hown' hg _ hat
      obtain ⟨A', c', rfl, hc, hnn⟩ := own_formk hown'
      exact h A' c' w' hown' hg hnn hat
end Go.Proofs.Ytopmanmjggcfaaa
