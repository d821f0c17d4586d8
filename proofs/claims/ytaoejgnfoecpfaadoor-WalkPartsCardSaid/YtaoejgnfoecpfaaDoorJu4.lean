/- Merging in place: the plain law: places exchanged, rows turned, what a merge wants. Places of a row exchanged, rows turned: the library's walks, over any program that bears these bodies. Rows turned: the library's walk, over any program that bears these bodies. A merge in place: the library's walk, over any program that bears these bodies. -/
import Derived.Sort.LotA
import Derived.Sort.Lot0
import Derived.Test.YtaoejgnfoecpfaaDoorJu1
import Derived.Shelf.SlSortCmp.InsertionK
namespace Go.Proofs.YtaoejgnfoecpfaaDoor
set_option linter.unusedVariables false
set_option linter.unusedSimpArgs false
set_option linter.unusedSectionVars false
open Go.Sort
variable {α : Type} [Inhabited α]

/-- k places from a on exchanged with those from b on -/
def swpR (a b : Nat) : Nat → Array α → Array α
  | 0, d => d
  | k + 1, d => swp (swpR a b k d) (a + k) (b + k)
theorem swpR_size (a b : Nat) : ∀ (k : Nat) (d : Array α), (swpR a b k d).size = d.size
  | 0, _ => rfl
  | k + 1, d => by rw [swpR, swp_size, swpR_size a b k d]
theorem swpR_get (a b : Nat) : ∀ (k : Nat) (d : Array α), a + k ≤ b → b + k ≤ d.size →
    (∀ x, x < a ∨ (a + k ≤ x ∧ x < b) ∨ b + k ≤ x → (swpR a b k d)[x]! = d[x]!) ∧ (∀ i, i < k → (swpR a b k d)[a + i]! = d[b + i]! ∧ (swpR a b k d)[b + i]! = d[a + i]!)
  | 0, d, _, _ => ⟨fun _ _ => rfl, fun i hi => absurd hi (by omega)⟩
  | k + 1, d, h1, h2 => by
    obtain ⟨g1, g2⟩ := swpR_get a b k d (by omega) (by omega)
    have hs := swpR_size a b k d
    have hg := fun x => swp_get (swpR a b k d) (i := a + k) (j := b + k) (by omega) (by omega) x
    refine ⟨fun x hx => ?_, fun i hi => ?_⟩
    · rw [swpR, hg, if_neg (by omega), if_neg (by omega)]
      exact g1 x (by omega)
    · rw [swpR, hg, hg, if_neg (by omega)]
      by_cases hk : i = k
      · subst hk
        rw [if_pos rfl, if_pos rfl]
        exact ⟨g1 _ (by omega), g1 _ (by omega)⟩
      · rw [if_neg (by omega), if_neg (by omega), if_neg (by omega)]
        exact g2 i (by omega)
/-- [a, b) turned about m: what was behind m stands ahead -/
structure Rot (a m b : Nat) (d d' : Array α) : Prop where
  size : d'.size = d.size
  out : ∀ x, x < a ∨ b ≤ x → d'[x]! = d[x]!
  fst : ∀ x, a ≤ x → x < a + (b - m) → d'[x]! = d[x + (m - a)]!
  snd : ∀ x, a + (b - m) ≤ x → x < b → d'[x]! = d[x - (b - m)]!
theorem Rot.perm {a m b : Nat} {d d' : Array α} (h : Rot a m b d d') (h1 : a ≤ m) (h2 : m ≤ b) (h3 : b ≤ d.size) : PermIn a b d d' := by
  refine ⟨h.size, h.out, ?_⟩
  rw [extract_toList d' a b (by rw [h.size]; exact h3), extract_toList d a b h3]
  have e1 : List.range' a (b - a) = List.range' a (b - m) ++ List.range' (a + (b - m)) (m - a) := by
    rw [List.range'_append_1]; congr 1; omega
  have e2 : List.range' a (b - a) = List.range' a (m - a) ++ List.range' m (b - m) := by
    have e := List.range'_append_1 (s := a) (m := m - a) (n := b - m)
    rw [show a + (m - a) = m by omega, show m - a + (b - m) = b - a by omega] at e
    exact e.symm
  have e3 : (List.range' a (b - m)).map (fun i => d'[i]!) = (List.range' m (b - m)).map (fun i => d[i]!) := by
    apply List.ext_getElem (by simp)
    intro i hi hj
    simp only [List.length_map, List.length_range'] at hi
    simp only [List.getElem_map, List.getElem_range', Nat.one_mul]
    rw [h.fst _ (by omega) (by omega)]
    congr 1; omega
  have e4 : (List.range' (a + (b - m)) (m - a)).map (fun i => d'[i]!) = (List.range' a (m - a)).map (fun i => d[i]!) := by
    apply List.ext_getElem (by simp)
    intro i hi hj
    simp only [List.length_map, List.length_range'] at hi
    simp only [List.getElem_map, List.getElem_range', Nat.one_mul]
    rw [h.snd _ (by omega) (by omega)]
    congr 1; omega
  have g1 : (List.range' a (b - a)).map (fun i => d'[i]!) = (List.range' m (b - m)).map (fun i => d[i]!) ++ (List.range' a (m - a)).map (fun i => d[i]!) := by rw [e1, List.map_append, e3, e4]
  have g2 : (List.range' a (b - a)).map (fun i => d[i]!) = (List.range' a (m - a)).map (fun i => d[i]!) ++ (List.range' m (b - m)).map (fun i => d[i]!) := by rw [e2, List.map_append]
  rw [g1, g2]
  exact List.perm_append_comm
theorem Rot.refl (a b : Nat) (d : Array α) : Rot a a b d d := ⟨rfl, fun _ _ => rfl, fun x _ _ => by rw [Nat.sub_self, Nat.add_zero], fun x h1 h2 => absurd h2 (by omega)⟩
theorem Rot.end_ (a b : Nat) (d : Array α) : Rot a b b d d := ⟨rfl, fun _ _ => rfl, fun x h1 h2 => absurd h2 (by omega), fun x _ _ => by rw [Nat.sub_self, Nat.sub_zero]⟩
/-- the exchanges of a turn: i places ahead of m, j behind it -/
def rotL (m i j : Nat) (d : Array α) : Array α :=
  if _h : i = 0 ∨ j = 0 then d else if i = j then swpR (m - i) m i d else if j < i then rotL m (i - j) j (swpR (m - i) m j d) else rotL m i (j - i) (swpR (m - i) (m + j - i) i d)
termination_by i + j
theorem rotL_same {m i : Nat} (h : 0 < i) (d : Array α) : rotL m i i d = swpR (m - i) m i d := by
  rw [rotL, dif_neg (by omega), if_pos rfl]
theorem rotL_more {m i j : Nat} (h : 0 < j) (h2 : j < i) (d : Array α) : rotL m i j d = rotL m (i - j) j (swpR (m - i) m j d) := by
  rw [rotL, dif_neg (by omega), if_neg (by omega), if_pos h2]
theorem rotL_less {m i j : Nat} (h : 0 < i) (h2 : i < j) (d : Array α) : rotL m i j d = rotL m i (j - i) (swpR (m - i) (m + j - i) i d) := by
  rw [rotL, dif_neg (by omega), if_neg (by omega), if_neg (by omega)]
theorem rotL_rot (m : Nat) : ∀ (n i j : Nat) (d : Array α), i + j ≤ n → 0 < i → 0 < j → i ≤ m → m + j ≤ d.size → Rot (m - i) m (m + j) d (rotL m i j d)
  | 0, i, j, d, hn, hi, hj, _, _ => absurd hn (by omega)
  | n + 1, i, j, d, hn, hi, hj, him, hmj => by
    by_cases h1 : i = j
    · subst h1
      rw [rotL_same hi]
      obtain ⟨g1, g2⟩ := swpR_get (m - i) m i d (by omega) (by omega)
      refine ⟨swpR_size _ _ _ _, fun x hx => g1 x (by omega), fun x h1 h2 => ?_, fun x h1 h2 => ?_⟩
      · have := (g2 (x - (m - i)) (by omega)).1
        rw [show m - i + (x - (m - i)) = x by omega] at this
        rw [this]; congr 1; omega
      · have := (g2 (x - m) (by omega)).2
        rw [show m + (x - m) = x by omega] at this
        rw [this]; congr 1; omega
    · by_cases h2 : j < i
      · rw [rotL_more hj h2]
        obtain ⟨g1, g2⟩ := swpR_get (m - i) m j d (by omega) (by omega)
        have hs := swpR_size (m - i) m j d
        have ih := rotL_rot m n (i - j) j (swpR (m - i) m j d) (by omega) (by omega) hj (by omega) (by omega)
        refine ⟨ih.size.trans hs, fun x hx => ?_, fun x k1 k2 => ?_, fun x k1 k2 => ?_⟩
        · rw [ih.out x (by omega)]; exact g1 x (by omega)
        · rw [ih.out x (by omega)]
          have := (g2 (x - (m - i)) (by omega)).1
          rw [show m - i + (x - (m - i)) = x by omega] at this
          rw [this]; congr 1; omega
        · by_cases k3 : x < m - (i - j) + j
          · rw [ih.fst x (by omega) (by omega)]
            have := (g2 (x + (m - (m - (i - j))) - m) (by omega)).2
            rw [show m + (x + (m - (m - (i - j))) - m) = x + (m - (m - (i - j))) by omega] at this
            rw [this]; congr 1; omega
          · rw [ih.snd x (by omega) k2, g1 _ (by omega)]
      · rw [rotL_less hi (by omega)]
        obtain ⟨g1, g2⟩ := swpR_get (m - i) (m + j - i) i d (by omega) (by omega)
        have hs := swpR_size (m - i) (m + j - i) i d
        have ih := rotL_rot m n i (j - i) (swpR (m - i) (m + j - i) i d) (by omega) hi (by omega) him (by omega)
        refine ⟨ih.size.trans hs, fun x hx => ?_, fun x k1 k2 => ?_, fun x k1 k2 => ?_⟩
        · rw [ih.out x (by omega)]; exact g1 x (by omega)
        · by_cases k3 : x < m - i + (m + (j - i) - m)
          · rw [ih.fst x k1 k3, g1 _ (by omega)]
          · rw [ih.snd x (by omega) (by omega)]
            have := (g2 (x - (m + (j - i) - m) - (m - i)) (by omega)).1
            rw [show m - i + (x - (m + (j - i) - m) - (m - i)) = x - (m + (j - i) - m) by omega] at this
            rw [this]; congr 1; omega
        · rw [ih.out x (by omega)]
          have := (g2 (x - (m + j - i)) (by omega)).2
          rw [show m + j - i + (x - (m + j - i)) = x by omega] at this
          rw [this]; congr 1; omega
section
variable {lt : α → α → Bool}
/-- behind a turn between two places that fit, the parts are in order and the first half is not behind the second -/
structure Cut2 (lt : α → α → Bool) (a s k e b : Nat) (d' : Array α) : Prop where
  p1 : SortedIn lt a s d'
  p2 : SortedIn lt s k d'
  p3 : SortedIn lt k e d'
  p4 : SortedIn lt e b d'
  cross : ∀ x y, a ≤ x → x < k → k ≤ y → y < b → lt d'[y]! d'[x]! = false
omit [Inhabited α] in
theorem swo_le {x y z : α} (hS : SWO lt) (h1 : lt y x = false) (h2 : lt z y = false) : lt z x = false := hS.ntrans z y x h2 h1
omit [Inhabited α] in
theorem swo_lt {x y z : α} (hS : SWO lt) (h1 : lt y x = false) (h2 : lt y z = true) : lt z x = false := by
  cases h : lt z x with
  | false => rfl
  | true => rw [hS.trans y z x h2 h] at h1; cases h1
theorem sorted_le (hS : SWO lt) {a b : Nat} {d : Array α} (h : SortedIn lt a b d) {p q : Nat} (hp : a ≤ p) (hpq : p ≤ q) (hq : q < b) : lt d[q]! d[p]! = false := by
  rcases Nat.lt_or_ge p q with h1 | h1
  · exact h p q hp h1 hq
  · obtain rfl : p = q := by omega
    exact hS.irrefl _
theorem cut2 (hS : SWO lt) {a s m e b : Nat} {d d' : Array α} (ha : a ≤ s) (hs : s ≤ m) (hm : m ≤ e) (he : e ≤ b) (h1 : SortedIn lt a m d) (h2 : SortedIn lt m b d) (hr : Rot s m e d d')
    (q1 : s = a ∨ e = b ∨ lt d[e]! d[s - 1]! = false) (q2 : s = m ∨ e = m ∨ lt d[e - 1]! d[s]! = true) : Cut2 lt a s (s + (e - m)) e b d' where
  p1 := fun i j k1 k2 k3 => by rw [hr.out i (by omega), hr.out j (by omega)]; exact h1 i j k1 k2 (by omega)
  p2 := fun i j k1 k2 k3 => by rw [hr.fst i k1 (by omega), hr.fst j (by omega) k3]; exact h2 _ _ (by omega) (by omega) (by omega)
  p3 := fun i j k1 k2 k3 => by rw [hr.snd i k1 (by omega), hr.snd j (by omega) k3]; exact h1 _ _ (by omega) (by omega) (by omega)
  p4 := fun i j k1 k2 k3 => by rw [hr.out i (by omega), hr.out j (by omega)]; exact h2 i j (by omega) k2 k3
  cross := fun x y k1 k2 k3 k4 => by
    by_cases c1 : x < s
    · rw [hr.out x (by omega)]
      by_cases c2 : y < e
      · rw [hr.snd y k3 c2]
        exact sorted_le hS h1 k1 (by omega) (by omega)
      · rw [hr.out y (by omega)]
        have c3 : lt d[e]! d[s - 1]! = false := by
          rcases q1 with h | h | h
          · omega
          · omega
          · exact h
        exact swo_le hS (sorted_le hS h1 k1 (show x ≤ s - 1 by omega) (by omega)) (swo_le hS c3 (sorted_le hS h2 hm (by omega) k4))
    · rw [hr.fst x (by omega) k2]
      by_cases c2 : y < e
      · rw [hr.snd y k3 c2]
        have c3 : lt d[e - 1]! d[s]! = true := by
          rcases q2 with h | h | h
          · omega
          · omega
          · exact h
        have c4 : lt d[e - 1]! d[x + (m - s)]! = false := sorted_le hS h2 (by omega) (by omega) (by omega)
        exact swo_le hS (swo_lt hS c4 c3) (sorted_le hS h1 (by omega) (by omega) (by omega))
      · rw [hr.out y (by omega)]
        exact sorted_le hS h2 (by omega) (by omega) k4
/-- two halves in order, the one not behind the other -/
theorem sorted_two {a k b : Nat} {d : Array α} (h1 : SortedIn lt a k d) (h2 : SortedIn lt k b d) (h3 : ∀ x y, a ≤ x → x < k → k ≤ y → y < b → lt d[y]! d[x]! = false) : SortedIn lt a b d := fun i j k1 k2 k3 => by
  by_cases c1 : j < k
  · exact h1 i j k1 k2 c1
  by_cases c2 : k ≤ i
  · exact h2 i j c2 k2 k3
  · exact h3 i j k1 (by omega) (by omega) k3
theorem cross_perm {a k b : Nat} {d d' : Array α} (hk : k ≤ d.size) (h1 : PermIn a k d d') (h3 : ∀ x y, a ≤ x → x < k → k ≤ y → y < b → lt d[y]! d[x]! = false) : ∀ x y, a ≤ x → x < k → k ≤ y → y < b → lt d'[y]! d'[x]! = false := fun x y k1 k2 k3 k4 => by
  rw [h1.2.1 y (by omega)]
  exact permIn_all d d' a k (fun v => lt d[y]! v = false) hk h1 (fun i c1 c2 => h3 i y c1 c2 k3 k4) x k1 k2
theorem cross_perm2 {a k b : Nat} {d d' : Array α} (hb : b ≤ d.size) (h1 : PermIn k b d d') (h3 : ∀ x y, a ≤ x → x < k → k ≤ y → y < b → lt d[y]! d[x]! = false) : ∀ x y, a ≤ x → x < k → k ≤ y → y < b → lt d'[y]! d'[x]! = false := fun x y k1 k2 k3 k4 => by
  rw [h1.2.1 x (by omega)]
  exact permIn_all d d' k b (fun v => lt v d[x]! = false) hb h1 (fun i c1 c2 => h3 x i k1 k2 c1 c2) y k3 k4
/-- one element ahead is laid in -/
theorem ins_left (hS : SWO lt) {a i b : Nat} {d d' : Array α} (h1 : a + 1 ≤ i) (h2 : i ≤ b) (h : SortedIn lt (a + 1) b d) (hr : Rot a (a + 1) i d d') (q1 : i = a + 1 ∨ lt d[i - 1]! d[a]! = true) (q2 : i = b ∨ lt d[i]! d[a]! = false) : SortedIn lt a b d' := fun p q k1 k2 k3 => by
  by_cases c1 : q < i - 1
  · rw [hr.fst p k1 (by omega), hr.fst q (by omega) (by omega)]
    exact h _ _ (by omega) (by omega) (by omega)
  by_cases c2 : q = i - 1
  · subst c2
    rw [hr.fst p k1 (by omega), hr.snd (i - 1) (by omega) (by omega)]
    have e : i - 1 - (i - (a + 1)) = a := by omega
    rw [e]
    have c3 : lt d[i - 1]! d[a]! = true := by rcases q1 with h | h; omega; exact h
    exact swo_lt hS (sorted_le hS h (by omega) (by omega) (by omega)) c3
  rw [hr.out q (by omega)]
  by_cases c4 : p < i - 1
  · rw [hr.fst p k1 (by omega)]
    exact h _ _ (by omega) (by omega) k3
  by_cases c5 : p = i - 1
  · subst c5
    rw [hr.snd (i - 1) (by omega) (by omega)]
    have e : i - 1 - (i - (a + 1)) = a := by omega
    rw [e]
    have c3 : lt d[i]! d[a]! = false := by rcases q2 with h | h; omega; exact h
    exact swo_le hS c3 (sorted_le hS h (by omega) (by omega) k3)
  · rw [hr.out p (by omega)]
    exact h p q (by omega) k2 k3
/-- one element behind is laid in -/
theorem ins_right (hS : SWO lt) {a i m : Nat} {d d' : Array α} (h1 : a ≤ i) (h2 : i ≤ m) (h : SortedIn lt a m d) (hr : Rot i m (m + 1) d d') (q1 : i = a ∨ lt d[m]! d[i - 1]! = false) (q2 : i = m ∨ lt d[m]! d[i]! = true) : SortedIn lt a (m + 1) d' := fun p q k1 k2 k3 => by
  have em : m + 1 - m = 1 := by omega
  by_cases c1 : q < i
  · rw [hr.out p (by omega), hr.out q (by omega)]
    exact h p q k1 k2 (by omega)
  by_cases c2 : q = i
  · subst c2
    rw [hr.out p (by omega), hr.fst q (by omega) (by omega), show q + (m - q) = m by omega]
    have c3 : lt d[m]! d[q - 1]! = false := by rcases q1 with h | h; omega; exact h
    exact swo_le hS (sorted_le hS h k1 (show p ≤ q - 1 by omega) (by omega)) c3
  rw [hr.snd q (by omega) k3, em]
  by_cases c4 : p < i
  · rw [hr.out p (by omega)]
    exact sorted_le hS h k1 (by omega) (by omega)
  by_cases c5 : p = i
  · subst c5
    rw [hr.fst p (by omega) (by omega), show p + (m - p) = m by omega]
    have c3 : lt d[m]! d[p]! = true := by rcases q2 with h | h; omega; exact h
    have c6 := sorted_le hS h k1 (show p ≤ q - 1 by omega) (by omega)
    cases c7 : lt d[q - 1]! d[m]! with
    | false => rfl
    | true => rw [hS.trans _ _ _ c7 c3] at c6; cases c6
  · rw [hr.snd p (by omega) (by omega), em]
    exact h _ _ (by omega) (by omega) (by omega)
end
/-- one more exchange of a turn by one, upward -/
theorem rot_up {a t : Nat} {d d' : Array α} (h : Rot a (a + 1) (a + 1 + t) d d') (hs : a + 1 + t < d.size) : Rot a (a + 1) (a + 1 + (t + 1)) d (swp d' (a + t) (a + t + 1)) := by
  have hg := fun x => swp_get d' (i := a + t) (j := a + t + 1) (by rw [h.size]; omega) (by rw [h.size]; omega) x
  refine ⟨(swp_size _ _ _).trans h.size, fun x hx => ?_, fun x k1 k2 => ?_, fun x k1 k2 => ?_⟩
  · rw [hg, if_neg (by omega), if_neg (by omega)]
    exact h.out x (by omega)
  · rw [hg, if_neg (by omega)]
    by_cases hx : x = a + t
    · rw [if_pos hx, h.out _ (by omega)]
      congr 1; omega
    · rw [if_neg hx]
      exact h.fst x k1 (by omega)
  · rw [hg, if_pos (by omega), h.snd (a + t) (by omega) (by omega)]
    congr 1; omega
theorem rot_down {m t : Nat} {d d' : Array α} (h : Rot (m - t) m (m + 1) d d') (ht : t < m) (hs : m < d.size) : Rot (m - (t + 1)) m (m + 1) d (swp d' (m - t) (m - t - 1)) := by
  have hg := fun x => swp_get d' (i := m - t) (j := m - t - 1) (by rw [h.size]; omega) (by rw [h.size]; omega) x
  refine ⟨(swp_size _ _ _).trans h.size, fun x hx => ?_, fun x k1 k2 => ?_, fun x k1 k2 => ?_⟩
  · rw [hg, if_neg (by omega), if_neg (by omega)]
    exact h.out x (by omega)
  · rw [hg, if_pos (by omega), h.fst (m - t) (by omega) (by omega)]
    congr 1; omega
  · rw [hg, if_neg (by omega)]
    by_cases hx : x = m - t
    · rw [if_pos hx, h.out _ (by omega)]
      congr 1; omega
    · rw [if_neg hx]
      exact h.snd x (by omega) k2
end Go.Proofs.YtaoejgnfoecpfaaDoor
namespace Go.Proofs.YtaoejgnfoecpfaaDoor
set_option linter.unusedVariables false
set_option linter.unusedSimpArgs false
set_option linter.unusedSectionVars false
open Go Go.RowKit Go.Sort

/-- a program that bears the stable sort's bodies at these types -/
structure StL (P : Program) (k : Nat) : Prop where
  mixed : P.follows .mixedOrders = true
  fsw : P.funcs[160]? = some Tryd.f160
  csw : ∀ args w, (callFunc 160 args).run P w = .ok (.enter 160 args) w
  frot : P.funcs[158]? = some Tryd.f158
  crot : ∀ args w, (callFunc 158 args).run P w = .ok (.enter 158 args) w
  fsym : P.funcs[152]? = some Tryd.f152
  csym : ∀ args w, (callFunc 152 args).run P w = .ok (.enter 152 args) w
  fins : P.funcs[151]? = some Tryd.f151
  cins : ∀ args w, (callFunc 151 args).run P w = .ok (.enter 151 args) w
  fsta : P.funcs[134]? = some Tryd.f134
  csta : ∀ args w, (callFunc 134 args).run P w = .ok (.enter 134 args) w
  t0 : P.underlying 0 = some (.tuple #[])
  a0 : ∀ w, (isAgg 0).run P w = .ok false w
  z0 : ∀ w, (Go.sizeOf 0).run P w = .ok 1 w
  v0 : ∀ w, (zeroValue 0).run P w = .ok (.tuple #[]) w
  t3 : P.underlying 3 = some (.int .i64)
  a3 : ∀ w, (isAgg 3).run P w = .ok false w
  z3 : ∀ w, (Go.sizeOf 3).run P w = .ok 1 w
  v3 : ∀ w, (zeroValue 3).run P w = .ok (.int .i64 0) w
  t4 : P.underlying 4 = some (.bool)
  a4 : ∀ w, (isAgg 4).run P w = .ok false w
  z4 : ∀ w, (Go.sizeOf 4).run P w = .ok 1 w
  v4 : ∀ w, (zeroValue 4).run P w = .ok (.bool false) w
  tS : P.underlying 49 = some (.slice 59)
  aS : ∀ w, (isAgg 49).run P w = .ok false w
  zS : ∀ w, (Go.sizeOf 49).run P w = .ok 1 w
  vS : ∀ w, (zeroValue 49).run P w = .ok (.slice none 0 0) w
  aE : ∀ w, (isAgg 59).run P w = .ok true w
  zE : ∀ w, (Go.sizeOf 59).run P w = .ok k w
  tC : P.underlying 140 = some (.func #[59, 59] #[3] false)
  aC : ∀ w, (isAgg 140).run P w = .ok false w
  zC : ∀ w, (Go.sizeOf 140).run P w = .ok 1 w
  vC : ∀ w, (zeroValue 140).run P w = .ok (.nilFunc) w
  tU : P.underlying 162 = some (.int .u64)
  aU : ∀ w, (isAgg 162).run P w = .ok false w
  zU : ∀ w, (Go.sizeOf 162).run P w = .ok 1 w
  vU : ∀ w, (zeroValue 162).run P w = .ok (.int .u64 0) w
theorem stl : StL Tryd.prog 5 where
  mixed := by kernel_rfl
  fsw := Tryd.func160
  csw := fun _ _ => by kernel_rfl
  frot := Tryd.func158
  crot := fun _ _ => by kernel_rfl
  fsym := Tryd.func152
  csym := fun _ _ => by kernel_rfl
  fins := Tryd.func151
  cins := fun _ _ => by kernel_rfl
  fsta := Tryd.func134
  csta := fun _ _ => by kernel_rfl
  t0 := Tryd.underlying0
  a0 := Tryd.isAgg0
  z0 := Tryd.sizeOf0
  v0 := Tryd.zeroValue0
  t3 := Tryd.underlying3
  a3 := Tryd.isAgg3
  z3 := Tryd.sizeOf3
  v3 := Tryd.zeroValue3
  t4 := Tryd.underlying4
  a4 := Tryd.isAgg4
  z4 := Tryd.sizeOf4
  v4 := Tryd.zeroValue4
  tS := Tryd.underlying49
  aS := Tryd.isAgg49
  zS := Tryd.sizeOf49
  vS := Tryd.zeroValue49
  aE := Tryd.isAgg59
  zE := Tryd.sizeOf59
  tC := Tryd.underlying140
  aC := Tryd.isAgg140
  zC := Tryd.sizeOf140
  vC := Tryd.zeroValue140
  tU := Tryd.underlying162
  aU := Tryd.isAgg162
  zU := Tryd.sizeOf162
  vU := Tryd.zeroValue162
section
variable {P : Program} {α : Type} [Inhabited α]
set_option maxHeartbeats 4000000 in
set_option maxRecDepth 1000000 in
/-- places of a row exchanged -/
theorem swapr_open {k : Nat} (L : StL P k) (enc : α → List Value) (hk : ∀ x, (enc x).length = k) (h1 : ∀ x, ∀ v ∈ enc x, v.oneCell' = true) (a b n cap blk off : Nat) (fv : Value) (d : Array α) (w : World) (hH : HoldsK enc k w blk off d) (hblk : blk < w.heap.size) (hab : a + n ≤ b) (hb : b + n ≤ d.size) (hsz : d.size < 4611686018427387904) :
    Calls P 160 #[.slice (some ⟨blk, off, none⟩) d.size cap, .int .i64 a, .int .i64 b, .int .i64 n, fv] w fun e w' => e = .returned (.tuple #[]) ∧ ∃ q, w' = sortWorldK enc k w blk off q (swpR a b n d) #[] := by
  have mixed := L.mixed; have t0 := L.t0; have a0 := L.a0; have z0 := L.z0; have v0 := L.v0; have t3 := L.t3; have a3 := L.a3; have z3 := L.z3; have v3 := L.v3; have t4 := L.t4; have a4 := L.a4; have z4 := L.z4; have v4 := L.v4; have tS := L.tS; have aS := L.aS; have zS := L.zS; have vS := L.vS; have aE := L.aE; have zE := L.zE; have tC := L.tC; have aC := L.aC; have zC := L.zC; have vC := L.vC; have tU := L.tU; have aU := L.aU; have zU := L.zU; have vU := L.vU
  have uS := run_underlying L.tS
  have HST := Lib.hid (show w = sortWorldK enc k w blk off 0 d #[] by unfold sortWorldK; rw [grow_empty]; exact (putRowK_self enc k w blk off d hH).symm)
  have HH := Lib.hid hH
  have HK := Lib.hid hk
  have H1 := Lib.hid h1
  clear hH hk h1
  go_enter L.fsw, Tryd.ntmps160
  go_wp2
  go_loopg [10] n (fun g1 vi wr => ∃ (i q : Nat), vi = .int .i64 i ∧ i ≤ n ∧ n - i ≤ g1 ∧ wr = sortWorldK enc k w blk off q (swpR a b i d) #[])
  case atStart => exact ⟨0, 0, rfl, Nat.zero_le _, by omega, HST.out⟩
  case round =>
    obtain ⟨i, q, rfl, hi, hg1, rfl⟩ := hrel
    by_cases hin : i < n
    · have hinz : (i : Int) < (n : Int) := by omega
      have hs := swpR_size a b i d
      have hw0 := sortWorldK_swp_c enc k w blk off HK.out q (swpR a b i d) #[] hblk (a + i) (b + i) (by omega) (by omega)
      have hHd : HoldsK enc k (sortWorldK enc k w blk off q (swpR a b i d) #[]).drew blk off (swpR a b i d) := holdsK_sortWorldK_c enc k w blk off d _ q #[] HH.out hblk hs
      have hrec : swpR a b (i + 1) d = swp (swpR a b i d) (a + i) (b + i) := rfl
      generalize swpR a b i d = dk at *
      generalize sortWorldK enc k w blk off q dk #[] = wq at *
      obtain ⟨xa, hxa⟩ : ∃ x, dk[a + i]! = x := ⟨_, rfl⟩
      obtain ⟨xb, hxb⟩ : ∃ x, dk[b + i]! = x := ⟨_, rfl⟩
      rw [hxa, hxb] at hw0
      have bnd : ∀ x, x < dk.size → x * k + k ≤ dk.size * k := fun x hx => by
        have := Nat.mul_le_mul_right k (show x + 1 ≤ dk.size from hx); rwa [Nat.add_mul, Nat.one_mul] at this
      have la : Sem.run P (loadCellsFrom ⟨blk, off + (a + i) * k, none⟩ 0 k #[]) wq.drew = .ok (enc xa).toArray wq.drew := by rw [← hxa]; exact run_loadCellsFrom_list _ _ _ _ k (HK.out _) (HoldsK.cells hHd HK.out (by omega))
      have lb : Sem.run P (loadCellsFrom ⟨blk, off + (b + i) * k, none⟩ 0 k #[]) wq.drew = .ok (enc xb).toArray wq.drew := by rw [← hxb]; exact run_loadCellsFrom_list _ _ _ _ k (HK.out _) (HoldsK.cells hHd HK.out (by omega))
      have s1 : Sem.run P (storeCells ⟨blk, off + (a + i) * k, none⟩ (enc xb) 0) wq.drew = .ok () (wq.drew.setCells blk (off + (a + i) * k) (enc xb)) := stores_of_holds _ hHd ((a + i) * k) _ (by rw [HK.out, size_flatK]; exact bnd _ (by omega)) (H1.out _)
      have s2 : Sem.run P (storeCells ⟨blk, off + (b + i) * k, none⟩ (enc xa) 0) (wq.drew.setCells blk (off + (a + i) * k) (enc xb)) = .ok () ((wq.drew.setCells blk (off + (a + i) * k) (enc xb)).setCells blk (off + (b + i) * k) (enc xa)) :=
        stores_of_holds _ (holds_setCells_c hHd ((a + i) * k) _ (by rw [HK.out, size_flatK]; exact bnd _ (by omega))) ((b + i) * k) _ (by rw [HK.out, size_setMany, size_flatK]; exact bnd _ (by omega)) (H1.out _)
      have HW := Lib.hid hw0
      have HREC := Lib.hid hrec
      have hla : (enc xa).length = k := HK.out _
      have hlb : (enc xb).length = k := HK.out _
      clear hw0 hHd hrec bnd hxa hxb
      generalize enc xa = ca at *
      generalize enc xb = cb at *
      have ja : (a : Int) + (i : Int) < (d.size : Int) := by omega
      have jb : (b : Int) + (i : Int) < (d.size : Int) := by omega
      have ja0 : (0 : Int) ≤ (a : Int) + (i : Int) := by omega
      have jb0 : (0 : Int) ≤ (b : Int) + (i : Int) := by omega
      have ea : ((a : Int) + (i : Int)).toNat = a + i := by omega
      have eb : ((b : Int) + (i : Int)).toNat = b + i := by omega
      have wa : IntKind.i64.wrap ((a : Int) + (i : Int)) = (a : Int) + (i : Int) := by rw [IntKind.wrap_i64]; omega
      have wb : IntKind.i64.wrap ((b : Int) + (i : Int)) = (b : Int) + (i : Int) := by rw [IntKind.wrap_i64]; omega
      go_wp2_with fail
      go_big_region_o
      all_goals go_wp2
      go_roundg (n - (i + 1))
      case measure => omega
      case rel => exact ⟨i + 1, q + 1, by go_num, by omega, Nat.le_refl _, by rw [HREC.out]; exact HW.out⟩
    · have hinz : ¬ (i : Int) < (n : Int) := by omega
      obtain rfl : i = n := by omega
      go_wp2
      go_end0
      exact ⟨rfl, q, rfl⟩
end
end Go.Proofs.YtaoejgnfoecpfaaDoor
namespace Go.Proofs.YtaoejgnfoecpfaaDoor
set_option linter.unusedVariables false
set_option linter.unusedSimpArgs false
set_option linter.unusedSectionVars false
open Go Go.RowKit Go.Sort

section
variable {P : Program} {α : Type} [Inhabited α]
theorem sortW_on (enc : α → List Value) (k : Nat) (w : World) (blk off n m : Nat) (dk dk' : Array α) (os os' : Array Obj) (hblk : blk < w.heap.size) (h : dk'.size = dk.size) :
    sortWorldK enc k (sortWorldK enc k w blk off n dk os) blk off m dk' os' = sortWorldK enc k w blk off (n + m) dk' (os ++ os') := by
  unfold sortWorldK
  exact grow_step_growK enc k w os os' n m blk off dk dk' hblk h
set_option maxHeartbeats 4000000 in
set_option maxRecDepth 1000000 in
/-- a row turned -/
theorem rot_open {k : Nat} (L : StL P k) (enc : α → List Value) (hk : ∀ x, (enc x).length = k) (h1 : ∀ x, ∀ v ∈ enc x, v.oneCell' = true) (a m b cap blk off : Nat) (fv : Value) (d : Array α) (w : World) (hH : HoldsK enc k w blk off d) (hblk : blk < w.heap.size) (ham : a < m) (hmb : m < b) (hb : b ≤ d.size) (hsz : d.size < 4611686018427387904) :
    Calls P 158 #[.slice (some ⟨blk, off, none⟩) d.size cap, .int .i64 a, .int .i64 m, .int .i64 b, fv] w fun e w' => e = .returned (.tuple #[]) ∧ ∃ q, w' = sortWorldK enc k w blk off q (rotL m (m - a) (b - m) d) #[] := by
  have csw := L.csw
  have mixed := L.mixed; have t0 := L.t0; have a0 := L.a0; have z0 := L.z0; have v0 := L.v0; have t3 := L.t3; have a3 := L.a3; have z3 := L.z3; have v3 := L.v3; have t4 := L.t4; have a4 := L.a4; have z4 := L.z4; have v4 := L.v4; have tS := L.tS; have aS := L.aS; have zS := L.zS; have vS := L.vS; have aE := L.aE; have zE := L.zE; have tC := L.tC; have aC := L.aC; have zC := L.zC; have vC := L.vC; have tU := L.tU; have aU := L.aU; have zU := L.zU; have vU := L.vU
  have HST := Lib.hid (show w = sortWorldK enc k w blk off 0 d #[] by unfold sortWorldK; rw [grow_empty]; exact (putRowK_self enc k w blk off d hH).symm)
  have HSW := Lib.hid fun (x y n : Nat) (dk : Array α) (q : Nat) (hs : dk.size = d.size) (hxy : x + n ≤ y) (hy : y + n ≤ d.size) => (by
    have h := swapr_open L enc hk h1 x y n cap blk off fv dk (sortWorldK enc k w blk off q dk #[]) (holdsK_sortWorldK_c enc k w blk off d dk q #[] hH hblk hs) (Nat.lt_of_lt_of_le hblk (size_sortWorldK_c enc k w blk off q dk #[])) hxy (by omega) (by omega)
    rw [hs] at h
    refine h.mono fun e w' ⟨e1, q', e2⟩ => ⟨e1, q + q', ?_⟩
    rw [e2, sortW_on enc k w blk off q q' dk _ #[] #[] hblk (swpR_size _ _ _ _)]
    rfl : Calls P 160 #[.slice (some ⟨blk, off, none⟩) d.size cap, .int .i64 x, .int .i64 y, .int .i64 n, fv] (sortWorldK enc k w blk off q dk #[]) fun e w' => e = .returned (.tuple #[]) ∧ ∃ q, w' = sortWorldK enc k w blk off q (swpR x y n dk) #[])
  have HLe := Lib.hid L
  clear hH hk h1 L
  have e1 : IntKind.i64.wrap ((m : Int) - (a : Int)) = ((m - a : Nat) : Int) := by rw [IntKind.wrap_i64]; omega
  have e2 : IntKind.i64.wrap ((b : Int) - (m : Int)) = ((b - m : Nat) : Int) := by rw [IntKind.wrap_i64]; omega
  have hj0 : 0 < b - m := by omega
  have hi0 : 0 < m - a := by omega
  have him : m - a ≤ m := by omega
  have hmj : m + (b - m) ≤ d.size := by omega
  generalize m - a = i0 at *
  generalize b - m = j0 at *
  go_enter HLe.out.frot, Tryd.ntmps158
  go_wp2
  go_loopg [10, 11] (i0 + j0) (fun g vi vj wr => ∃ (i j q : Nat) (dk : Array α), vi = .int .i64 i ∧ vj = .int .i64 j ∧ 0 < i ∧ 0 < j ∧ i ≤ m ∧ m + j ≤ d.size ∧ i + j ≤ g ∧ dk.size = d.size ∧ wr = sortWorldK enc k w blk off q dk #[] ∧ rotL m i j dk = rotL m i0 j0 d)
  case atStart => exact ⟨i0, j0, 0, d, rfl, rfl, hi0, hj0, him, hmj, Nat.le_refl _, rfl, HST.out, rfl⟩
  case round =>
    obtain ⟨i, j, q, dk, rfl, rfl, hi, hj, hm1, hm2, hg1, hs, rfl, hrot⟩ := hrel
    have HR := Lib.hid hrot
    clear hrot e1 e2 him hmj hj0 hi0
    have e1 : IntKind.i64.wrap ((m : Int) - (i : Int)) = ((m - i : Nat) : Int) := by rw [IntKind.wrap_i64]; omega
    by_cases hij : i = j
    · subst hij
      have hb0 : ((i : Int) != (i : Int)) = false := by simp
      have HC := Lib.hid (HSW.out (m - i) m i dk q hs (by omega) (by omega))
      have HX := Lib.hid (rotL_same (m := m) hi dk)
      generalize m - i = mi at *
      go_wp2_with fail
      refine HC.out.mono ?_
      rintro e w1 ⟨rfl, q1, rfl⟩
      go_wp2
      go_end0
      exact ⟨rfl, q1, by rw [← HR.out, HX.out]⟩
    · have hb0 : ((i : Int) != (j : Int)) = true := by rw [bne_iff_ne]; omega
      by_cases hji : j < i
      · have hjz : (j : Int) < (i : Int) := by omega
        have HC := Lib.hid (HSW.out (m - i) m j dk q hs (by omega) (by omega))
        have HX := Lib.hid (rotL_more (m := m) hj hji dk)
        have e2 : IntKind.i64.wrap ((i : Int) - (j : Int)) = ((i - j : Nat) : Int) := by rw [IntKind.wrap_i64]; omega
        have k1 : 0 < i - j := by omega
        have k2 : i - j ≤ m := by omega
        have k3 : i - j + j < gk := by omega
        generalize m - i = mi at *
        generalize i - j = ij at *
        go_wp2_with fail
        refine HC.out.mono ?_
        rintro e w1 ⟨rfl, q1, rfl⟩
        go_wp2
        go_roundg (ij + j)
        case measure => exact k3
        case rel => exact ⟨ij, j, q1, _, rfl, rfl, k1, hj, k2, hm2, Nat.le_refl _, (swpR_size _ _ _ _).trans hs, rfl, by rw [← HR.out, HX.out]⟩
      · have hjz : ¬ (j : Int) < (i : Int) := by omega
        have HC := Lib.hid (HSW.out (m - i) (m + j - i) i dk q hs (by omega) (by omega))
        have HX := Lib.hid (rotL_less (m := m) hi (show i < j by omega) dk)
        have e2 : IntKind.i64.wrap ((j : Int) - (i : Int)) = ((j - i : Nat) : Int) := by rw [IntKind.wrap_i64]; omega
        have e3 : IntKind.i64.wrap ((m : Int) + (j : Int)) = (m : Int) + (j : Int) := by rw [IntKind.wrap_i64]; omega
        have e4 : IntKind.i64.wrap ((m : Int) + (j : Int) - (i : Int)) = ((m + j - i : Nat) : Int) := by rw [IntKind.wrap_i64]; omega
        have k1 : 0 < j - i := by omega
        have k2 : m + (j - i) ≤ d.size := by omega
        have k3 : i + (j - i) < gk := by omega
        generalize m - i = mi at *
        generalize m + j - i = mj at *
        generalize j - i = ji at *
        go_wp2_with fail
        refine HC.out.mono ?_
        rintro e w1 ⟨rfl, q1, rfl⟩
        go_wp2
        go_roundg (i + ji)
        case measure => exact k3
        case rel => exact ⟨i, ji, q1, _, rfl, rfl, hi, k1, hm1, k2, Nat.le_refl _, (swpR_size _ _ _ _).trans hs, rfl, by rw [← HR.out, HX.out]⟩
end
end Go.Proofs.YtaoejgnfoecpfaaDoor
namespace Go.Proofs.YtaoejgnfoecpfaaDoor
set_option linter.unusedVariables false
set_option linter.unusedSimpArgs false
set_option linter.unusedSectionVars false
open Go Go.RowKit Go.Sort

section
variable {P : Program} {α : Type} [Inhabited α]
/-- a world of the sort's, the row holding dk -/
def SWm (enc : α → List Value) (k : Nat) (w : World) (blk off : Nat) (dk : Array α) (W : World) : Prop := ∃ q os, W = sortWorldK enc k w blk off q dk os
/-- what a walk of the sort's stands on -/
structure Base (P : Program) (enc : α → List Value) (k : Nat) (cf : α → α → Int) (g : Nat) (cb : Array Value) (blk off size : Nat) (w : World) : Prop where
  L : StL P k
  hk : ∀ x, (enc x).length = k
  h1 : ∀ x, ∀ v ∈ enc x, v.oneCell' = true
  hS : SWO (ltOf cf)
  eg : ∀ args w, (callFunc g args).run P w = .ok (.enter g args) w
  hcmp : CmpLays P g cb enc k cf blk off size w
  hblk : blk < w.heap.size
  hsz : size < 4611686018427387904
  hH : ∃ d, d.size = size ∧ HoldsK enc k w blk off d
section
variable {enc : α → List Value} {k : Nat} {cf : α → α → Int} {g : Nat} {cb : Array Value} {blk off size : Nat} {w W : World} {dk : Array α}
theorem SWm.grown (h : SWm enc k w blk off dk W) (n : Nat) (os : Array Obj) : SWm enc k w blk off dk (grow (W.drewN n) os) := by
  obtain ⟨q, os0, rfl⟩ := h
  exact ⟨q + n, os0 ++ os, sortWorldK_grown_c enc k w blk off q n dk os0 os⟩
theorem Base.holds (B : Base P enc k cf g cb blk off size w) (h : SWm enc k w blk off dk W) (hs : dk.size = size) : HoldsK enc k W blk off dk := by
  obtain ⟨q, os0, rfl⟩ := h
  obtain ⟨d, hd, hH⟩ := B.hH
  exact holdsK_sortWorldK_c enc k w blk off d dk q os0 hH B.hblk (by omega)
theorem Base.load (B : Base P enc k cf g cb blk off size w) (h : SWm enc k w blk off dk W) (hs : dk.size = size) {x : Nat} (hx : x < size) (n : Nat) (os : Array Obj) :
    Sem.run P (loadCellsFrom ⟨blk, off + x * k, none⟩ 0 k #[]) (grow (W.drewN n) os) = .ok (enc dk[x]!).toArray (grow (W.drewN n) os) :=
  run_loadCellsFrom_list P _ _ _ k (B.hk _) (HoldsK.cells (B.holds (h.grown n os) hs) B.hk (by omega))
theorem Base.cmp (B : Base P enc k cf g cb blk off size w) (h : SWm enc k w blk off dk W) (hs : dk.size = size) (x y : α) (n : Nat) (os : Array Obj) :
    Calls P g (#[.agg (enc x).toArray, .agg (enc y).toArray] ++ cb) (grow (W.drewN n) os) fun e w' => e = .returned (.int .i64 (cf x y)) ∧ ∃ q os'', w' = grow ((grow (W.drewN n) os).drewN q) os'' := by
  obtain ⟨q, os0, e⟩ := h.grown n os
  rw [e]
  exact B.hcmp q os0 dk hs x y
theorem Base.lt (B : Base P enc k cf g cb blk off size w) (h : SWm enc k w blk off dk W) : blk < W.heap.size := by
  obtain ⟨q, os0, rfl⟩ := h
  exact Nat.lt_of_lt_of_le B.hblk (size_sortWorldK_c enc k w blk off q dk os0)
theorem Base.on (B : Base P enc k cf g cb blk off size w) (h : SWm enc k w blk off dk W) {d2 : Array α} (hs : d2.size = dk.size) {W2 : World} (h2 : SWm enc k W blk off d2 W2) : SWm enc k w blk off d2 W2 := by
  obtain ⟨q, os0, rfl⟩ := h
  obtain ⟨q2, os2, rfl⟩ := h2
  exact ⟨_, _, sortW_on enc k w blk off q q2 dk d2 os0 os2 B.hblk hs⟩
/-- what a merge leaves -/
def SymPost (enc : α → List Value) (k : Nat) (cf : α → α → Int) (w : World) (blk off a b : Nat) (d : Array α) (e : Ending) (w' : World) : Prop :=
  e = .returned (.tuple #[]) ∧ ∃ d', SWm enc k w blk off d' w' ∧ PermIn a b d d' ∧ SortedIn (ltOf cf) a b d'
end
set_option maxHeartbeats 8000000 in
set_option maxRecDepth 1000000 in
theorem sym_left {k : Nat} {enc : α → List Value} {cf : α → α → Int} {g : Nat} {cb : Array Value} {blk off cap a b : Nat} {d : Array α} {w : World} (B : Base P enc k cf g cb blk off d.size w) (hw : HoldsK enc k w blk off d) (hab : a + 1 < b) (hb : b ≤ d.size)
    (hs : SortedIn (ltOf cf) (a + 1) b d) :
    Calls P 152 #[.slice (some ⟨blk, off, none⟩) d.size cap, .int .i64 a, .int .i64 (a + 1 : Nat), .int .i64 b, .func (.func g) #[] cb] w (SymPost enc k cf w blk off a b d) := by
  have L := B.L
  have eg := B.eg
  have mixed := L.mixed; have t0 := L.t0; have a0 := L.a0; have z0 := L.z0; have v0 := L.v0; have t3 := L.t3; have a3 := L.a3; have z3 := L.z3; have v3 := L.v3; have t4 := L.t4; have a4 := L.a4; have z4 := L.z4; have v4 := L.v4; have tS := L.tS; have aS := L.aS; have zS := L.zS; have vS := L.vS; have aE := L.aE; have zE := L.zE; have tC := L.tC; have aC := L.aC; have zC := L.zC; have vC := L.vC; have tU := L.tU; have aU := L.aU; have zU := L.zU; have vU := L.vU
  have uS := run_underlying L.tS
  have BB := Lib.hid B
  have HST := Lib.hid (show SWm enc k w blk off d w from ⟨0, #[], by unfold sortWorldK; rw [grow_empty]; exact (putRowK_self enc k w blk off d hw).symm⟩)
  have HS := Lib.hid hs
  have hsz := B.hsz
  clear B hw hs
  have HLe := Lib.hid L
  clear L
  have e1 : IntKind.i64.wrap (((a + 1 : Nat) : Int) - (a : Int)) = 1 := by rw [IntKind.wrap_i64]; omega
  obtain ⟨m, hm⟩ : ∃ m, m = a + 1 := ⟨_, rfl⟩
  rw [← hm] at e1 HS ⊢
  have HM := Lib.hid hm
  have hm1 : a + 1 ≤ m := by omega
  have hm2 : m ≤ a + 1 := by omega
  clear hm
  go_enter HLe.out.fsym, Tryd.ntmps152
  go_wp2
  go_loopg [10, 11] (b - m) (fun g1 vi vj wr => ∃ (i j : Nat), vi = .int .i64 i ∧ vj = .int .i64 j ∧ m ≤ i ∧ i ≤ j ∧ j ≤ b ∧ j - i ≤ g1 ∧ Hid (SWm enc k w blk off d wr) ∧ Hid ((i = m ∨ ltOf cf d[i - 1]! d[a]! = true) ∧ (j = b ∨ ltOf cf d[j]! d[a]! = false)))
  case atStart => exact ⟨m, b, rfl, rfl, Nat.le_refl _, by omega, Nat.le_refl _, Nat.le_refl _, HST, Lib.hid ⟨.inl rfl, .inl rfl⟩⟩
  case round =>
    clear HST
    obtain ⟨i, j, rfl, rfl, hmi, hij, hjb, hg1, SW, IV⟩ := hrel
    by_cases hlt : i < j
    · have hz : (i : Int) < (j : Int) := by omega
      have wz : IntKind.i64.wrap ((i : Int) + (j : Int)) = (i : Int) + (j : Int) := by rw [IntKind.wrap_i64]; omega
      have hh : ((i : Int) + (j : Int)) / 2 = (((i + j) / 2 : Nat) : Int) := by omega
      obtain ⟨h, hhd⟩ : ∃ h, (i + j) / 2 = h := ⟨_, rfl⟩
      have hb1 : i ≤ h ∧ h < j := by omega
      rw [hhd] at hh
      have lh := BB.out.load SW.out rfl (x := h) (by omega)
      have la := BB.out.load SW.out rfl (x := a) (by omega)
      have hcg := BB.out.cmp SW.out rfl d[h]! d[a]!
      have jh : (h : Int) < (d.size : Int) := by omega
      have ja : (a : Int) < (d.size : Int) := by omega
      obtain ⟨xh, hxh⟩ : ∃ x, d[h]! = x := ⟨_, rfl⟩
      obtain ⟨xa, hxa⟩ : ∃ x, d[a]! = x := ⟨_, rfl⟩
      rw [hxh] at lh hcg
      rw [hxa] at la hcg
      have XX := Lib.hid (And.intro hxh hxa)
      clear hxh hxa
      by_cases hlv : cf xh xa < 0
      · go_wp2_with fail
        go_quiet_grown (first | (go_at_fn g; refine Calls.grown_of (hcg _ _)))
        go_wp2
        go_roundg (j - (h + 1))
        case measure => omega
        case rel => exact ⟨h + 1, j, by go_num, rfl, by omega, by omega, hjb, Nat.le_refl _, Lib.hid (SW.out.grown nq osq), Lib.hid ⟨.inr (by rw [Nat.add_sub_cancel, XX.out.1, XX.out.2]; exact decide_eq_true hlv), IV.out.2⟩⟩
      · go_wp2_with fail
        go_quiet_grown (first | (go_at_fn g; refine Calls.grown_of (hcg _ _)))
        go_wp2
        go_roundg (h - i)
        case measure => omega
        case rel => exact ⟨i, h, rfl, by go_num, hmi, by omega, by omega, Nat.le_refl _, Lib.hid (SW.out.grown nq osq), Lib.hid ⟨IV.out.1, .inr (by rw [XX.out.1, XX.out.2]; exact decide_eq_false (by omega))⟩⟩
    · obtain rfl : i = j := by omega
      have hz : ¬ (i : Int) < (i : Int) := by omega
      have e2 : IntKind.i64.wrap ((i : Int) - 1) = ((i - 1 : Nat) : Int) := by rw [IntKind.wrap_i64]; omega
      obtain ⟨t, ht⟩ : ∃ t, i = a + 1 + t := ⟨i - (a + 1), by omega⟩
      have ht1 : i - 1 = a + t := by omega
      rw [ht1] at e2
      have HT := Lib.hid ht
      have ht2 : a + 1 + t ≤ i := by omega
      have ht3 : i ≤ a + 1 + t := by omega
      clear ht ht1
      go_wp2
      go_loopg [13] t (fun g1 vk wr => ∃ (s : Nat) (dk : Array α), vk = .int .i64 (a + s : Nat) ∧ s ≤ t ∧ t - s ≤ g1 ∧ Hid (SWm enc k w blk off dk wr) ∧ Hid (Rot a (a + 1) (a + 1 + s) d dk))
      case atStart => exact ⟨0, d, rfl, Nat.zero_le _, Nat.le_refl _, SW, Lib.hid (Rot.end_ a (a + 1) d)⟩
      case round =>
        obtain ⟨s, dk, rfl, hst, hg2, SW2, RR⟩ := hrel
        by_cases hs2 : s < t
        · have hz2 : ((a + s : Nat) : Int) < ((a + t : Nat) : Int) := by omega
          have hsk : dk.size = d.size := RR.out.size
          have hh2 := rot_up RR.out (by omega)
          have hHd : HoldsK enc k (grow (wr.drewN 1) #[]) blk off dk := BB.out.holds (SW2.out.grown 1 #[]) hsk
          rw [grow_empty] at hHd
          have hw0 : SWm enc k w blk off (swp dk (a + s) (a + s + 1)) ((wr.drew.setCells blk (off + (a + s) * k) (enc dk[a + s + 1]!)).setCells blk (off + (a + s + 1) * k) (enc dk[a + s]!)) := by
            obtain ⟨q, os0, rfl⟩ := SW2.out
            exact ⟨q + 1, os0, sortWorldK_swp_c enc k w blk off BB.out.hk q dk os0 BB.out.hblk (a + s) (a + s + 1) (by omega) (by omega)⟩
          have bnd : ∀ x, x < dk.size → x * k + k ≤ dk.size * k := fun x hx => by
            have := Nat.mul_le_mul_right k (show x + 1 ≤ dk.size from hx); rwa [Nat.add_mul, Nat.one_mul] at this
          obtain ⟨p, hp⟩ : ∃ p, a + s = p := ⟨_, rfl⟩
          rw [hp] at hw0 hh2 hz2 ⊢
          have hpt : p < a + t := by omega
          have la : Sem.run P (loadCellsFrom ⟨blk, off + p * k, none⟩ 0 k #[]) wr.drew = .ok (enc dk[p]!).toArray wr.drew := run_loadCellsFrom_list _ _ _ _ k (BB.out.hk _) (HoldsK.cells hHd BB.out.hk (by omega))
          have lb : Sem.run P (loadCellsFrom ⟨blk, off + (p + 1) * k, none⟩ 0 k #[]) wr.drew = .ok (enc dk[p + 1]!).toArray wr.drew := run_loadCellsFrom_list _ _ _ _ k (BB.out.hk _) (HoldsK.cells hHd BB.out.hk (by omega))
          have s1 : Sem.run P (storeCells ⟨blk, off + p * k, none⟩ (enc dk[p + 1]!) 0) wr.drew = .ok () (wr.drew.setCells blk (off + p * k) (enc dk[p + 1]!)) := stores_of_holds _ hHd (p * k) _ (by rw [BB.out.hk, size_flatK]; exact bnd _ (by omega)) (BB.out.h1 _)
          have s2 : Sem.run P (storeCells ⟨blk, off + (p + 1) * k, none⟩ (enc dk[p]!) 0) (wr.drew.setCells blk (off + p * k) (enc dk[p + 1]!)) = .ok () ((wr.drew.setCells blk (off + p * k) (enc dk[p + 1]!)).setCells blk (off + (p + 1) * k) (enc dk[p]!)) :=
            stores_of_holds _ (holds_setCells_c hHd (p * k) _ (by rw [BB.out.hk, size_flatK]; exact bnd _ (by omega))) ((p + 1) * k) _ (by rw [BB.out.hk, size_setMany, size_flatK]; exact bnd _ (by omega)) (BB.out.h1 _)
          have hla : (enc dk[p]!).length = k := BB.out.hk _
          have hlb : (enc dk[p + 1]!).length = k := BB.out.hk _
          have HW := Lib.hid hw0
          have HR := Lib.hid hh2
          clear hw0 hh2 hHd bnd
          generalize enc dk[p]! = ca at *
          generalize enc dk[p + 1]! = cb2 at *
          have j0 : (p : Int) < (d.size : Int) := by omega
          have j1 : (p : Int) + 1 < (d.size : Int) := by omega
          have p0 : (0 : Int) ≤ (p : Int) + 1 := by omega
          have e0 : ((p : Int) + 1).toNat = p + 1 := by omega
          have w1 : IntKind.i64.wrap ((p : Int) + 1) = (p : Int) + 1 := by rw [IntKind.wrap_i64]; omega
          go_wp2_with fail
          go_big_region_o
          all_goals go_wp2
          go_roundg (t - (s + 1))
          case measure => omega
          case rel => exact ⟨s + 1, _, by subst hp; go_num, by omega, Nat.le_refl _, HW, HR⟩
        · obtain rfl : s = t := by omega
          have hz2 : ¬ ((a + s : Nat) : Int) < ((a + s : Nat) : Int) := by omega
          go_wp2
          go_end0
          refine ⟨rfl, dk, SW2.out, ?_, ?_⟩
          · have h1 := RR.out.perm (by omega) (by omega) (by omega)
            exact permIn_mono _ _ _ _ _ _ (Nat.le_refl _) (by omega) hb h1
          · have h2 := HT.out
            have hm := HM.out
            exact ins_left BB.out.hS (i := a + 1 + s) (by omega) (by omega) (by rw [← hm]; exact HS.out) RR.out (by rw [← h2, ← hm]; exact IV.out.1) (by rw [← h2]; exact IV.out.2)
end
end Go.Proofs.YtaoejgnfoecpfaaDoor
