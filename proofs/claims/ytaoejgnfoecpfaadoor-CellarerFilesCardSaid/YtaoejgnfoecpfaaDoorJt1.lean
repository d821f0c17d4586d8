/- Merging in place: the plain law: places exchanged, rows turned, what a merge wants. -/
import Derived.Sort.LotA
import Derived.Sort.Lot0
namespace Go.Proofs.YtaoejgnfoecpfaaDoor
set_option linter.unusedVariables false
set_option linter.unusedSimpArgs false
set_option linter.unusedSectionVars false
open Go.Sort
variable {α : Type} [Inhabited α]

/-- k places from a on exchanged with those from b on -/
def swpR (a b : Nat) : Nat → Array α → Array α
  | 0, d => d
  | k + 1, d => swp (swpR a b k d) (a + k) (b + k)
theorem swpR_size (a b : Nat) : ∀ (k : Nat) (d : Array α), (swpR a b k d).size = d.size
  | 0, _ => rfl
  | k + 1, d => by rw [swpR, swp_size, swpR_size a b k d]
theorem swpR_get (a b : Nat) : ∀ (k : Nat) (d : Array α), a + k ≤ b → b + k ≤ d.size →
    (∀ x, x < a ∨ (a + k ≤ x ∧ x < b) ∨ b + k ≤ x → (swpR a b k d)[x]! = d[x]!) ∧ (∀ i, i < k → (swpR a b k d)[a + i]! = d[b + i]! ∧ (swpR a b k d)[b + i]! = d[a + i]!)
  | 0, d, _, _ => ⟨fun _ _ => rfl, fun i hi => absurd hi (by omega)⟩
  | k + 1, d, h1, h2 => by
    obtain ⟨g1, g2⟩ := swpR_get a b k d (by omega) (by omega)
    have hs := swpR_size a b k d
    have hg := fun x => swp_get (swpR a b k d) (i := a + k) (j := b + k) (by omega) (by omega) x
    refine ⟨fun x hx => ?_, fun i hi => ?_⟩
    · rw [swpR, hg, if_neg (by omega), if_neg (by omega)]
      exact g1 x (by omega)
    · rw [swpR, hg, hg, if_neg (by omega)]
      by_cases hk : i = k
      · subst hk
        rw [if_pos rfl, if_pos rfl]
        exact ⟨g1 _ (by omega), g1 _ (by omega)⟩
      · rw [if_neg (by omega), if_neg (by omega), if_neg (by omega)]
        exact g2 i (by omega)
/-- [a, b) turned about m: what was behind m stands ahead -/
structure Rot (a m b : Nat) (d d' : Array α) : Prop where
  size : d'.size = d.size
  out : ∀ x, x < a ∨ b ≤ x → d'[x]! = d[x]!
  fst : ∀ x, a ≤ x → x < a + (b - m) → d'[x]! = d[x + (m - a)]!
  snd : ∀ x, a + (b - m) ≤ x → x < b → d'[x]! = d[x - (b - m)]!
theorem Rot.perm {a m b : Nat} {d d' : Array α} (h : Rot a m b d d') (h1 : a ≤ m) (h2 : m ≤ b) (h3 : b ≤ d.size) : PermIn a b d d' := by
  refine ⟨h.size, h.out, ?_⟩
  rw [extract_toList d' a b (by rw [h.size]; exact h3), extract_toList d a b h3]
  have e1 : List.range' a (b - a) = List.range' a (b - m) ++ List.range' (a + (b - m)) (m - a) := by
    rw [List.range'_append_1]; congr 1; omega
  have e2 : List.range' a (b - a) = List.range' a (m - a) ++ List.range' m (b - m) := by
    have e := List.range'_append_1 (s := a) (m := m - a) (n := b - m)
    rw [show a + (m - a) = m by omega, show m - a + (b - m) = b - a by omega] at e
    exact e.symm
  have e3 : (List.range' a (b - m)).map (fun i => d'[i]!) = (List.range' m (b - m)).map (fun i => d[i]!) := by
    apply List.ext_getElem (by simp)
    intro i hi hj
    simp only [List.length_map, List.length_range'] at hi
    simp only [List.getElem_map, List.getElem_range', Nat.one_mul]
    rw [h.fst _ (by omega) (by omega)]
    congr 1; omega
  have e4 : (List.range' (a + (b - m)) (m - a)).map (fun i => d'[i]!) = (List.range' a (m - a)).map (fun i => d[i]!) := by
    apply List.ext_getElem (by simp)
    intro i hi hj
    simp only [List.length_map, List.length_range'] at hi
    simp only [List.getElem_map, List.getElem_range', Nat.one_mul]
    rw [h.snd _ (by omega) (by omega)]
    congr 1; omega
  have g1 : (List.range' a (b - a)).map (fun i => d'[i]!) = (List.range' m (b - m)).map (fun i => d[i]!) ++ (List.range' a (m - a)).map (fun i => d[i]!) := by rw [e1, List.map_append, e3, e4]
  have g2 : (List.range' a (b - a)).map (fun i => d[i]!) = (List.range' a (m - a)).map (fun i => d[i]!) ++ (List.range' m (b - m)).map (fun i => d[i]!) := by rw [e2, List.map_append]
  rw [g1, g2]
  exact List.perm_append_comm
theorem Rot.refl (a b : Nat) (d : Array α) : Rot a a b d d := ⟨rfl, fun _ _ => rfl, fun x _ _ => by rw [Nat.sub_self, Nat.add_zero], fun x h1 h2 => absurd h2 (by omega)⟩
theorem Rot.end_ (a b : Nat) (d : Array α) : Rot a b b d d := ⟨rfl, fun _ _ => rfl, fun x h1 h2 => absurd h2 (by omega), fun x _ _ => by rw [Nat.sub_self, Nat.sub_zero]⟩
/-- the exchanges of a turn: i places ahead of m, j behind it -/
def rotL (m i j : Nat) (d : Array α) : Array α :=
  if _h : i = 0 ∨ j = 0 then d else if i = j then swpR (m - i) m i d else if j < i then rotL m (i - j) j (swpR (m - i) m j d) else rotL m i (j - i) (swpR (m - i) (m + j - i) i d)
termination_by i + j
theorem rotL_same {m i : Nat} (h : 0 < i) (d : Array α) : rotL m i i d = swpR (m - i) m i d := by
  rw [rotL, dif_neg (by omega), if_pos rfl]
theorem rotL_more {m i j : Nat} (h : 0 < j) (h2 : j < i) (d : Array α) : rotL m i j d = rotL m (i - j) j (swpR (m - i) m j d) := by
  rw [rotL, dif_neg (by omega), if_neg (by omega), if_pos h2]
theorem rotL_less {m i j : Nat} (h : 0 < i) (h2 : i < j) (d : Array α) : rotL m i j d = rotL m i (j - i) (swpR (m - i) (m + j - i) i d) := by
  rw [rotL, dif_neg (by omega), if_neg (by omega), if_neg (by omega)]
theorem rotL_rot (m : Nat) : ∀ (n i j : Nat) (d : Array α), i + j ≤ n → 0 < i → 0 < j → i ≤ m → m + j ≤ d.size → Rot (m - i) m (m + j) d (rotL m i j d)
  | 0, i, j, d, hn, hi, hj, _, _ => absurd hn (by omega)
  | n + 1, i, j, d, hn, hi, hj, him, hmj => by
    by_cases h1 : i = j
    · subst h1
      rw [rotL_same hi]
      obtain ⟨g1, g2⟩ := swpR_get (m - i) m i d (by omega) (by omega)
      refine ⟨swpR_size _ _ _ _, fun x hx => g1 x (by omega), fun x h1 h2 => ?_, fun x h1 h2 => ?_⟩
      · have := (g2 (x - (m - i)) (by omega)).1
        rw [show m - i + (x - (m - i)) = x by omega] at this
        rw [this]; congr 1; omega
      · have := (g2 (x - m) (by omega)).2
        rw [show m + (x - m) = x by omega] at this
        rw [this]; congr 1; omega
    · by_cases h2 : j < i
      · rw [rotL_more hj h2]
        obtain ⟨g1, g2⟩ := swpR_get (m - i) m j d (by omega) (by omega)
        have hs := swpR_size (m - i) m j d
        have ih := rotL_rot m n (i - j) j (swpR (m - i) m j d) (by omega) (by omega) hj (by omega) (by omega)
        refine ⟨ih.size.trans hs, fun x hx => ?_, fun x k1 k2 => ?_, fun x k1 k2 => ?_⟩
        · rw [ih.out x (by omega)]; exact g1 x (by omega)
        · rw [ih.out x (by omega)]
          have := (g2 (x - (m - i)) (by omega)).1
          rw [show m - i + (x - (m - i)) = x by omega] at this
          rw [this]; congr 1; omega
        · by_cases k3 : x < m - (i - j) + j
          · rw [ih.fst x (by omega) (by omega)]
            have := (g2 (x + (m - (m - (i - j))) - m) (by omega)).2
            rw [show m + (x + (m - (m - (i - j))) - m) = x + (m - (m - (i - j))) by omega] at this
            rw [this]; congr 1; omega
          · rw [ih.snd x (by omega) k2, g1 _ (by omega)]
      · rw [rotL_less hi (by omega)]
        obtain ⟨g1, g2⟩ := swpR_get (m - i) (m + j - i) i d (by omega) (by omega)
        have hs := swpR_size (m - i) (m + j - i) i d
        have ih := rotL_rot m n i (j - i) (swpR (m - i) (m + j - i) i d) (by omega) hi (by omega) him (by omega)
        refine ⟨ih.size.trans hs, fun x hx => ?_, fun x k1 k2 => ?_, fun x k1 k2 => ?_⟩
        · rw [ih.out x (by omega)]; exact g1 x (by omega)
        · by_cases k3 : x < m - i + (m + (j - i) - m)
          · rw [ih.fst x k1 k3, g1 _ (by omega)]
          · rw [ih.snd x (by omega) (by omega)]
            have := (g2 (x - (m + (j - i) - m) - (m - i)) (by omega)).1
            rw [show m - i + (x - (m + (j - i) - m) - (m - i)) = x - (m + (j - i) - m) by omega] at this
            rw [this]; congr 1; omega
        · rw [ih.out x (by omega)]
          have := (g2 (x - (m + j - i)) (by omega)).2
          rw [show m + j - i + (x - (m + j - i)) = x by omega] at this
          rw [this]; congr 1; omega
section
variable {lt : α → α → Bool}
/-- behind a turn between two places that fit, the parts are in order and the first half is not behind the second -/
structure Cut2 (lt : α → α → Bool) (a s k e b : Nat) (d' : Array α) : Prop where
  p1 : SortedIn lt a s d'
  p2 : SortedIn lt s k d'
  p3 : SortedIn lt k e d'
  p4 : SortedIn lt e b d'
  cross : ∀ x y, a ≤ x → x < k → k ≤ y → y < b → lt d'[y]! d'[x]! = false
omit [Inhabited α] in
theorem swo_le {x y z : α} (hS : SWO lt) (h1 : lt y x = false) (h2 : lt z y = false) : lt z x = false := hS.ntrans z y x h2 h1
omit [Inhabited α] in
theorem swo_lt {x y z : α} (hS : SWO lt) (h1 : lt y x = false) (h2 : lt y z = true) : lt z x = false := by
  cases h : lt z x with
  | false => rfl
  | true => rw [hS.trans y z x h2 h] at h1; cases h1
theorem sorted_le (hS : SWO lt) {a b : Nat} {d : Array α} (h : SortedIn lt a b d) {p q : Nat} (hp : a ≤ p) (hpq : p ≤ q) (hq : q < b) : lt d[q]! d[p]! = false := by
  rcases Nat.lt_or_ge p q with h1 | h1
  · exact h p q hp h1 hq
  · obtain rfl : p = q := by omega
    exact hS.irrefl _
theorem cut2 (hS : SWO lt) {a s m e b : Nat} {d d' : Array α} (ha : a ≤ s) (hs : s ≤ m) (hm : m ≤ e) (he : e ≤ b) (h1 : SortedIn lt a m d) (h2 : SortedIn lt m b d) (hr : Rot s m e d d')
    (q1 : s = a ∨ e = b ∨ lt d[e]! d[s - 1]! = false) (q2 : s = m ∨ e = m ∨ lt d[e - 1]! d[s]! = true) : Cut2 lt a s (s + (e - m)) e b d' where
  p1 := fun i j k1 k2 k3 => by rw [hr.out i (by omega), hr.out j (by omega)]; exact h1 i j k1 k2 (by omega)
  p2 := fun i j k1 k2 k3 => by rw [hr.fst i k1 (by omega), hr.fst j (by omega) k3]; exact h2 _ _ (by omega) (by omega) (by omega)
  p3 := fun i j k1 k2 k3 => by rw [hr.snd i k1 (by omega), hr.snd j (by omega) k3]; exact h1 _ _ (by omega) (by omega) (by omega)
  p4 := fun i j k1 k2 k3 => by rw [hr.out i (by omega), hr.out j (by omega)]; exact h2 i j (by omega) k2 k3
  cross := fun x y k1 k2 k3 k4 => by
    by_cases c1 : x < s
    · rw [hr.out x (by omega)]
      by_cases c2 : y < e
      · rw [hr.snd y k3 c2]
        exact sorted_le hS h1 k1 (by omega) (by omega)
      · rw [hr.out y (by omega)]
        have c3 : lt d[e]! d[s - 1]! = false := by
          rcases q1 with h | h | h
          · omega
          · omega
          · exact h
        exact swo_le hS (sorted_le hS h1 k1 (show x ≤ s - 1 by omega) (by omega)) (swo_le hS c3 (sorted_le hS h2 hm (by omega) k4))
    · rw [hr.fst x (by omega) k2]
      by_cases c2 : y < e
      · rw [hr.snd y k3 c2]
        have c3 : lt d[e - 1]! d[s]! = true := by
          rcases q2 with h | h | h
          · omega
          · omega
          · exact h
        have c4 : lt d[e - 1]! d[x + (m - s)]! = false := sorted_le hS h2 (by omega) (by omega) (by omega)
        exact swo_le hS (swo_lt hS c4 c3) (sorted_le hS h1 (by omega) (by omega) (by omega))
      · rw [hr.out y (by omega)]
        exact sorted_le hS h2 (by omega) (by omega) k4
/-- two halves in order, the one not behind the other -/
theorem sorted_two {a k b : Nat} {d : Array α} (h1 : SortedIn lt a k d) (h2 : SortedIn lt k b d) (h3 : ∀ x y, a ≤ x → x < k → k ≤ y → y < b → lt d[y]! d[x]! = false) : SortedIn lt a b d := fun i j k1 k2 k3 => by
  by_cases c1 : j < k
  · exact h1 i j k1 k2 c1
  by_cases c2 : k ≤ i
  · exact h2 i j c2 k2 k3
  · exact h3 i j k1 (by omega) (by omega) k3
theorem cross_perm {a k b : Nat} {d d' : Array α} (hk : k ≤ d.size) (h1 : PermIn a k d d') (h3 : ∀ x y, a ≤ x → x < k → k ≤ y → y < b → lt d[y]! d[x]! = false) : ∀ x y, a ≤ x → x < k → k ≤ y → y < b → lt d'[y]! d'[x]! = false := fun x y k1 k2 k3 k4 => by
  rw [h1.2.1 y (by omega)]
  exact permIn_all d d' a k (fun v => lt d[y]! v = false) hk h1 (fun i c1 c2 => h3 i y c1 c2 k3 k4) x k1 k2
theorem cross_perm2 {a k b : Nat} {d d' : Array α} (hb : b ≤ d.size) (h1 : PermIn k b d d') (h3 : ∀ x y, a ≤ x → x < k → k ≤ y → y < b → lt d[y]! d[x]! = false) : ∀ x y, a ≤ x → x < k → k ≤ y → y < b → lt d'[y]! d'[x]! = false := fun x y k1 k2 k3 k4 => by
  rw [h1.2.1 x (by omega)]
  exact permIn_all d d' k b (fun v => lt v d[x]! = false) hb h1 (fun i c1 c2 => h3 x i k1 k2 c1 c2) y k3 k4
/-- one element ahead is laid in -/
theorem ins_left (hS : SWO lt) {a i b : Nat} {d d' : Array α} (h1 : a + 1 ≤ i) (h2 : i ≤ b) (h : SortedIn lt (a + 1) b d) (hr : Rot a (a + 1) i d d') (q1 : i = a + 1 ∨ lt d[i - 1]! d[a]! = true) (q2 : i = b ∨ lt d[i]! d[a]! = false) : SortedIn lt a b d' := fun p q k1 k2 k3 => by
  by_cases c1 : q < i - 1
  · rw [hr.fst p k1 (by omega), hr.fst q (by omega) (by omega)]
    exact h _ _ (by omega) (by omega) (by omega)
  by_cases c2 : q = i - 1
  · subst c2
    rw [hr.fst p k1 (by omega), hr.snd (i - 1) (by omega) (by omega)]
    have e : i - 1 - (i - (a + 1)) = a := by omega
    rw [e]
    have c3 : lt d[i - 1]! d[a]! = true := by rcases q1 with h | h; omega; exact h
    exact swo_lt hS (sorted_le hS h (by omega) (by omega) (by omega)) c3
  rw [hr.out q (by omega)]
  by_cases c4 : p < i - 1
  · rw [hr.fst p k1 (by omega)]
    exact h _ _ (by omega) (by omega) k3
  by_cases c5 : p = i - 1
  · subst c5
    rw [hr.snd (i - 1) (by omega) (by omega)]
    have e : i - 1 - (i - (a + 1)) = a := by omega
    rw [e]
    have c3 : lt d[i]! d[a]! = false := by rcases q2 with h | h; omega; exact h
    exact swo_le hS c3 (sorted_le hS h (by omega) (by omega) k3)
  · rw [hr.out p (by omega)]
    exact h p q (by omega) k2 k3
/-- one element behind is laid in -/
theorem ins_right (hS : SWO lt) {a i m : Nat} {d d' : Array α} (h1 : a ≤ i) (h2 : i ≤ m) (h : SortedIn lt a m d) (hr : Rot i m (m + 1) d d') (q1 : i = a ∨ lt d[m]! d[i - 1]! = false) (q2 : i = m ∨ lt d[m]! d[i]! = true) : SortedIn lt a (m + 1) d' := fun p q k1 k2 k3 => by
  have em : m + 1 - m = 1 := by omega
  by_cases c1 : q < i
  · rw [hr.out p (by omega), hr.out q (by omega)]
    exact h p q k1 k2 (by omega)
  by_cases c2 : q = i
  · subst c2
    rw [hr.out p (by omega), hr.fst q (by omega) (by omega), show q + (m - q) = m by omega]
    have c3 : lt d[m]! d[q - 1]! = false := by rcases q1 with h | h; omega; exact h
    exact swo_le hS (sorted_le hS h k1 (show p ≤ q - 1 by omega) (by omega)) c3
  rw [hr.snd q (by omega) k3, em]
  by_cases c4 : p < i
  · rw [hr.out p (by omega)]
    exact sorted_le hS h k1 (by omega) (by omega)
  by_cases c5 : p = i
  · subst c5
    rw [hr.fst p (by omega) (by omega), show p + (m - p) = m by omega]
    have c3 : lt d[m]! d[p]! = true := by rcases q2 with h | h; omega; exact h
    have c6 := sorted_le hS h k1 (show p ≤ q - 1 by omega) (by omega)
    cases c7 : lt d[q - 1]! d[m]! with
    | false => rfl
    | true => rw [hS.trans _ _ _ c7 c3] at c6; cases c6
  · rw [hr.snd p (by omega) (by omega), em]
    exact h _ _ (by omega) (by omega) (by omega)
end
/-- one more exchange of a turn by one, upward -/
theorem rot_up {a t : Nat} {d d' : Array α} (h : Rot a (a + 1) (a + 1 + t) d d') (hs : a + 1 + t < d.size) : Rot a (a + 1) (a + 1 + (t + 1)) d (swp d' (a + t) (a + t + 1)) := by
  have hg := fun x => swp_get d' (i := a + t) (j := a + t + 1) (by rw [h.size]; omega) (by rw [h.size]; omega) x
  refine ⟨(swp_size _ _ _).trans h.size, fun x hx => ?_, fun x k1 k2 => ?_, fun x k1 k2 => ?_⟩
  · rw [hg, if_neg (by omega), if_neg (by omega)]
    exact h.out x (by omega)
  · rw [hg, if_neg (by omega)]
    by_cases hx : x = a + t
    · rw [if_pos hx, h.out _ (by omega)]
      congr 1; omega
    · rw [if_neg hx]
      exact h.fst x k1 (by omega)
  · rw [hg, if_pos (by omega), h.snd (a + t) (by omega) (by omega)]
    congr 1; omega
theorem rot_down {m t : Nat} {d d' : Array α} (h : Rot (m - t) m (m + 1) d d') (ht : t < m) (hs : m < d.size) : Rot (m - (t + 1)) m (m + 1) d (swp d' (m - t) (m - t - 1)) := by
  have hg := fun x => swp_get d' (i := m - t) (j := m - t - 1) (by rw [h.size]; omega) (by rw [h.size]; omega) x
  refine ⟨(swp_size _ _ _).trans h.size, fun x hx => ?_, fun x k1 k2 => ?_, fun x k1 k2 => ?_⟩
  · rw [hg, if_neg (by omega), if_neg (by omega)]
    exact h.out x (by omega)
  · rw [hg, if_pos (by omega), h.fst (m - t) (by omega) (by omega)]
    congr 1; omega
  · rw [hg, if_neg (by omega)]
    by_cases hx : x = m - t
    · rw [if_pos hx, h.out _ (by omega)]
      congr 1; omega
    · rw [if_neg hx]
      exact h.snd x (by omega) k2
end Go.Proofs.YtaoejgnfoecpfaaDoor
