/- Regions that draw their order: an invariant over what has been done serves every order. Regions that draw their order and make memory: one step an operation, whatever the order. Regions that draw their order and make memory, two last operations behind all others. -/
import Derived.Test.YtpeepdkeicgkiaaGreatDoorZo1
import Derived.Test.YtpeepdkeicgkiaaGreatDoorZo4
import Derived.Deep.MidRow
import Derived.Deep.AppendLies
namespace Go.Proofs.YtpeepdkeicgkiaaGreatDoor
set_option linter.unusedVariables false
set_option linter.unusedSimpArgs false
set_option linter.unusedSectionVars false
open Go.RowKit

theorem ready_mem {md : Region.Mode} {ops : Array Oper} {listed : Array Bool} {i : Nat} (h : i ∈ Region.ready md ops listed) : i < ops.size ∧ listed.getD i true = false := by
  unfold Region.ready at h
  obtain ⟨h1, h2⟩ := List.mem_filter.1 h
  simp only [Bool.and_eq_true, Bool.not_eq_true'] at h2
  exact ⟨List.mem_range.1 h1, h2.1⟩
/-- how many are still to be done -/
def undone (l : Array Bool) : Nat := l.toList.count false
theorem undone_set {l : Array Bool} {i : Nat} (h : l.getD i true = false) : undone (l.setIfInBounds i true) + 1 = undone l := by
  obtain ⟨xs⟩ := l
  unfold undone
  have hi : xs[i]? = some false := by
    have : xs[i]?.getD true = false := by simpa [Array.getD_eq_getD_getElem?] using h
    cases hx : xs[i]? with
    | none => rw [hx] at this; cases this
    | some b => rw [hx] at this; simpa using this
  simp only [List.setIfInBounds_toArray]
  clear h
  induction xs generalizing i with
  | nil => simp at hi
  | cons x r ih =>
    cases i with
    | zero => simp only [List.getElem?_cons_zero, Option.some.injEq] at hi; subst hi; simp
    | succ i =>
      simp only [List.getElem?_cons_succ] at hi
      have := ih hi
      simp only [List.set_cons_succ, List.count_cons]
      omega
theorem wpAny_inv {P : Program} {md : Region.Mode} {ops : Array Oper} {Q : Exit → Act → World → Prop} (I : Array Bool → Act → World → Prop)
    (hdone : ∀ l a w, I l a w → Region.ready md ops l = [] → Q .normal a w)
    (hstep : ∀ l a w, I l a w → ∀ i ∈ Region.ready md ops l, wpOp P ops Q i (I (l.setIfInBounds i true)) a w) :
    ∀ fuel l a w, undone l ≤ fuel → I l a w → wpAny P md ops Q fuel l a w := by
  intro fuel
  induction fuel with
  | zero =>
    intro l a w hu hi
    have he : Region.ready md ops l = [] := by
      rw [List.eq_nil_iff_forall_not_mem]
      intro i hr
      have h := ready_mem hr
      have := undone_set h.2
      omega
    exact ⟨he, hdone l a w hi he⟩
  | succ fuel ih =>
    intro l a w hu hi
    refine ⟨hdone l a w hi, fun i hr => ?_⟩
    have h := ready_mem hr
    have hu' := undone_set h.2
    exact wpOp_mono (fun a' w' hI => ih _ a' w' (by omega) hI) (hstep l a w hi i hr)
theorem undone_all (n : Nat) : undone (Array.replicate n false) = n := by simp [undone]
/-- the rule -/
theorem wp_region_inv {P : Program} {id : Nat} {ops : Array Oper} {Q : Exit → Act → World → Prop} {a : Act} {w : World} (hm : P.follows .mixedOrders = true) (I : Array Bool → Act → World → Prop)
    (h0 : I (Array.replicate ops.size false) a w.drew)
    (hdone : ∀ l a w, I l a w → Region.ready .any ops l = [] → Q .normal a w)
    (hstep : ∀ l a w, I l a w → ∀ i ∈ Region.ready .any ops l, wpOp P ops Q i (I (l.setIfInBounds i true)) a w) : (Code.region id ops true).wp P Q a w :=
  wp_region_any hm (wpAny_inv I hdone hstep _ _ _ _ (Nat.le_of_eq (undone_all _)) h0)
/-- the same, the invariant told of the frame at the beginning -/
theorem wp_region_inv2 {P : Program} {id : Nat} {ops : Array Oper} {Q : Exit → Act → World → Prop} {a : Act} {w : World} (hm : P.follows .mixedOrders = true) (J : Act → Array Bool → Act → World → Prop)
    (h0 : J a (Array.replicate ops.size false) a w.drew)
    (hdone : ∀ l a' w', J a l a' w' → Region.ready .any ops l = [] → Q .normal a' w')
    (hstep : ∀ l a' w', J a l a' w' → ∀ i ∈ Region.ready .any ops l, wpOp P ops Q i (J a (l.setIfInBounds i true)) a' w') : (Code.region id ops true).wp P Q a w :=
  wp_region_inv hm (J a) h0 hdone hstep
theorem ready_dep {md : Region.Mode} {ops : Array Oper} {listed : Array Bool} {i : Nat} (h : i ∈ Region.ready md ops listed) : i < ops.size ∧ listed.getD i true = false ∧ ((ops[i]?).map (·.after.all fun e => !Region.binds md e || listed.getD e.on false)).getD false = true := by
  unfold Region.ready at h
  obtain ⟨h1, h2⟩ := List.mem_filter.1 h
  simp only [Bool.and_eq_true, Bool.not_eq_true'] at h2
  exact ⟨List.mem_range.1 h1, h2.1, h2.2⟩
theorem ready_nil {md : Region.Mode} {ops : Array Oper} {listed : Array Bool} (h : Region.ready md ops listed = []) (i : Nat) (hi : i < ops.size) : listed.getD i true = true ∨ ((ops[i]?).map (·.after.all fun e => !Region.binds md e || listed.getD e.on false)).getD false = false := by
  unfold Region.ready at h
  rw [List.filter_eq_nil_iff] at h
  have := h i (List.mem_range.2 hi)
  simp only [Bool.and_eq_true, Bool.not_eq_true', not_and] at this
  cases hl : listed.getD i true with
  | true => exact Or.inl rfl
  | false => exact Or.inr (by simpa using this hl)
end Go.Proofs.YtpeepdkeicgkiaaGreatDoor
namespace Go.Proofs.YtpeepdkeicgkiaaGreatDoor
set_option linter.unusedVariables false
set_option linter.unusedSimpArgs false
set_option linter.unusedSectionVars false
open Go.RowKit

/-- values put into these slots -/
def putF (xs : Nat → Value) : List (Option Tmp) → Nat → Act → Act
  | [], _, a => a
  | d :: r, i, a => putF xs r (i + 1) (a.put d (xs i))
theorem put_put (a : Act) (d : Option Tmp) (x y : Value) : (a.put d x).put d y = a.put d y := by
  cases d with
  | none => rfl
  | some d => simp [Act.put]
theorem put_swap (a : Act) {d e : Option Tmp} (h : d ≠ e ∨ d = none) (x y : Value) : (a.put d x).put e y = (a.put e y).put d x := by
  cases d with
  | none => rfl
  | some d =>
    cases e with
    | none => rfl
    | some e =>
      have hne : d ≠ e := by rcases h with h | h; exact fun he => h (by rw [he]); cases h
      simp only [Act.put]
      rw [Array.setIfInBounds_comm _ _ hne]
def getT (a : Act) (d : Option Tmp) : Value := match d with | some t => a.tmps.getD t undef | none => undef
theorem put_get (a : Act) (d : Option Tmp) : a.put d (getT a d) = a := by
  cases d with
  | none => rfl
  | some d =>
    obtain ⟨tm, df⟩ := a
    show Act.mk (tm.setIfInBounds d (tm.getD d undef)) df = ⟨tm, df⟩
    congr 1
    apply Array.ext
    · simp
    · intro i h1 h2
      rw [Array.getElem_setIfInBounds]
      split
      · next h => subst h; rw [Array.getD_eq_getD_getElem?, Array.getElem?_eq_getElem h2]; rfl
      · rfl
/-- slots apart -/
def ApartD : List (Option Tmp) → Prop
  | [] => True
  | d :: r => (d = none ∨ d ∉ r) ∧ ApartD r
theorem putF_out (xs : Nat → Value) : ∀ (ds : List (Option Tmp)) (k : Nat) (a : Act) (d : Option Tmp) (v : Value), (d = none ∨ d ∉ ds) → putF xs ds k (a.put d v) = (putF xs ds k a).put d v
  | [], _, _, _, _, _ => rfl
  | e :: r, k, a, d, v, h => by
    have hne : d ≠ e ∨ d = none := by
      rcases h with h | h
      · exact .inr h
      · exact .inl fun he => h (by simp [he])
    rw [putF, putF, put_swap a hne, putF_out xs r (k + 1) _ d v (h.imp id fun h hm => h (by simp [hm]))]
theorem putF_ext {xs ys : Nat → Value} : ∀ (ds : List (Option Tmp)) (k : Nat) (a : Act), (∀ i, k ≤ i → xs i = ys i) → putF xs ds k a = putF ys ds k a
  | [], _, _, _ => rfl
  | d :: r, k, a, h => by rw [putF, putF, h k (Nat.le_refl _), putF_ext r (k + 1) _ fun i hi => h i (by omega)]
def updX (xs : Nat → Value) (i : Nat) (v : Value) : Nat → Value := fun j => if j = i then v else xs j
theorem putF_upd (xs : Nat → Value) (v : Value) : ∀ (ds : List (Option Tmp)) (k i : Nat) (a : Act), ApartD ds → k ≤ i → i < k + ds.length → putF (updX xs i v) ds k a = (putF xs ds k a).put (ds.getD (i - k) none) v
  | [], k, i, a, _, h1, h2 => by simp at h2; omega
  | d :: r, k, i, a, hd, h1, h2 => by
    by_cases h : i = k
    · subst h
      rw [putF, putF, Nat.sub_self]
      show putF (updX xs i v) r (i + 1) (a.put d (updX xs i v i)) = (putF xs r (i + 1) (a.put d (xs i))).put d v
      have e1 : updX xs i v i = v := if_pos rfl
      rw [e1, ← putF_out xs r (i + 1) _ d v hd.1, put_put]
      exact putF_ext r (i + 1) _ fun j hj => if_neg (by omega)
    · have e1 : updX xs i v k = xs k := if_neg (fun e => h e.symm)
      rw [putF, putF, e1, putF_upd xs v r (k + 1) i _ hd.2 (by omega) (by simp at h2; omega)]
      congr 1
      rw [show i - k = (i - (k + 1)) + 1 by omega]; rfl
/-- what the slots hold at the beginning -/
def heldX (a : Act) (ds : List (Option Tmp)) : Nat → Value := fun i => getT a (ds.getD i none)
theorem putF_held (a : Act) (f : Nat → Value) : ∀ (ds : List (Option Tmp)) (k : Nat), (∀ i, i < ds.length → f (k + i) = heldX a ds i) → putF f ds k a = a
  | [], _, _ => rfl
  | d :: r, k, h => by
    have h0 := h 0 (by simp)
    rw [Nat.add_zero] at h0
    have e : heldX a (d :: r) 0 = getT a d := rfl
    rw [putF, h0, e, put_get]
    exact putF_held a f r (k + 1) fun i hi => by
      have := h (i + 1) (by simp; omega)
      rw [show k + 1 + i = k + (i + 1) by omega, this]; rfl
/-- does an operation wait for another one? -/
def waits (ops : Array Oper) (i j : Nat) : Bool := ((ops[i]?).map fun o => o.after.any fun e => Region.binds .any e && e.on == j).getD false
def earlier (ops : Array Oper) : Bool := (List.range ops.size).all fun i => ((ops[i]?).map fun o => o.after.all fun e => !Region.binds .any e || decide (e.on < i)).getD true
section
variable {P : Program} {id : Nat} {ops : Array Oper} {Q : Exit → Act → World → Prop} {a : Act} {w : World}
theorem getD_in {l : Array Bool} {i : Nat} (hi : i < l.size) (d e : Bool) : l.getD i d = l.getD i e := by
  rw [Array.getD_eq_getD_getElem?, Array.getD_eq_getD_getElem?, Array.getElem?_eq_getElem hi]; rfl
theorem all_listed {l : Array Bool} (hsz : l.size = ops.size) (he : earlier ops = true) (h : Region.ready .any ops l = []) : ∀ i, i < ops.size → l.getD i true = true := by
  intro i
  induction i using Nat.strongRecOn with
  | _ i ih =>
    intro hi
    rcases ready_nil h i hi with h1 | h1
    · exact h1
    · exfalso
      unfold earlier at he
      rw [List.all_eq_true] at he
      have h2 := he i (List.mem_range.2 hi)
      rw [Array.getElem?_eq_getElem hi] at h1 h2
      simp only [Option.map_some, Option.getD_some] at h1 h2
      rw [Array.all_eq_true_iff_forall_mem] at h2
      rw [Bool.eq_false_iff] at h1
      apply h1
      rw [Array.all_eq_true_iff_forall_mem]
      intro e hm
      have h3 := h2 e hm
      cases hb : Region.binds .any e with
      | false => rfl
      | true =>
        rw [hb] at h3
        simp only [Bool.not_true, Bool.false_or, decide_eq_true_eq] at h3 ⊢
        rw [getD_in (by omega) false true]
        exact ih e.on h3 (by omega)
theorem waits_listed {l : Array Bool} {i j : Nat} (h : ((ops[i]?).map (·.after.all fun e => !Region.binds .any e || l.getD e.on false)).getD false = true) (hw : waits ops i j = true) : l.getD j false = true := by
  unfold waits at hw
  cases ho : ops[i]? with
  | none => rw [ho] at hw; cases hw
  | some o =>
    rw [ho] at h hw
    simp only [Option.map_some, Option.getD_some] at h hw
    rw [← Array.any_toList, List.any_eq_true] at hw
    obtain ⟨e, he, h2⟩ := hw
    have he := Array.mem_toList_iff.1 he
    rw [Array.all_eq_true_iff_forall_mem] at h
    have h3 := h e he
    simp only [Bool.and_eq_true, beq_iff_eq] at h2
    rw [h2.1, h2.2] at h3
    simpa using h3
/-- the rule: m operations that make memory at most, and perhaps a last one behind them all -/
theorem region_grow (hm : P.follows .mixedOrders = true) (ds : List (Option Tmp)) (hap : ApartD ds) (hn : ds.length = ops.size) (he : earlier ops = true) (m : Nat) (hmle : m ≤ ops.size) (hlast : ∀ i j, m ≤ i → i < ops.size → j < i → waits ops i j = true)
    (hmm : ops.size ≤ m + 1) (G : Nat → Value → World → Prop) (hG : ∀ i v W W', i < m → G i v W → Below W.heap.size W W' → G i v W')
    (hstep : ∀ i, i < m → ∀ xs W, Below w.heap.size w W → (∀ j, j < m → waits ops i j = true → G j (xs j) W) → wpOp P ops Q i (fun a' W' => ∃ v, a' = (putF xs ds 0 a).put (ds.getD i none) v ∧ Below W.heap.size W W' ∧ G i v W') (putF xs ds 0 a) W)
    (hend : ∀ xs W, Below w.heap.size w W → (∀ i, i < m → G i (xs i) W) → if m = ops.size then Q .normal (putF xs ds 0 a) W else wpOp P ops Q m (fun a' W' => Q .normal a' W') (putF xs ds 0 a) W) :
    (Code.region id ops true).wp P Q a w := by
  refine wp_region_inv2 hm (fun a l a' W => l.size = ops.size ∧ ((m < ops.size ∧ (∀ i, i < ops.size → l.getD i false = true) ∧ Q .normal a' W) ∨ ((m < ops.size → l.getD m true = false) ∧ ∃ xs, a' = putF xs ds 0 a ∧ Below w.heap.size w W ∧ ∀ i, i < m → l.getD i false = true → G i (xs i) W))) ?_ ?_ ?_
  · refine ⟨by simp, .inr ⟨fun h => ?_, heldX a ds, ?_, (Below.refl _ w).drew, fun i hi h => ?_⟩⟩
    · rw [Array.getD_eq_getD_getElem?, Array.getElem?_replicate, if_pos h]; rfl
    · exact (putF_held a _ ds 0 fun i _ => by rw [Nat.zero_add]).symm
    · rw [Array.getD_eq_getD_getElem?, Array.getElem?_replicate] at h
      split at h <;> cases h
  · rintro l a' W ⟨hsz, hI⟩ hr
    rcases hI with ⟨_, _, hq⟩ | ⟨h1, xs, rfl, hb, hg⟩
    · exact hq
    · have hall := all_listed hsz he hr
      by_cases hms : m < ops.size
      · have := hall m hms
        rw [h1 hms] at this; cases this
      · have h2 := hend xs W hb fun i hi => hg i hi (by rw [getD_in (by omega) false true]; exact hall i (by omega))
        rwa [if_pos (by omega)] at h2
  · rintro l a' W ⟨hsz, hI⟩ i hr
    obtain ⟨q1, q2, q3⟩ := ready_dep hr
    rcases hI with ⟨hms, hl, _⟩ | ⟨h1, xs, rfl, hb, hg⟩
    · have := hl i q1
      rw [getD_in (by omega) false true, q2] at this; cases this
    · have hset : ∀ j, j < ops.size → (l.setIfInBounds i true).getD j false = (if j = i then true else l.getD j false) := fun j hj => by
        rw [Array.getD_eq_getD_getElem?, Array.getElem?_setIfInBounds]
        by_cases e : i = j
        · subst e; rw [if_pos rfl, if_pos (by omega), if_pos rfl]; rfl
        · rw [if_neg e, if_neg (fun h => e h.symm), ← Array.getD_eq_getD_getElem?]
      by_cases him : i < m
      · refine wpOp_mono (fun a' W' hh => ?_) (hstep i him xs W hb fun j hj hw => hg j hj (waits_listed q3 hw))
        obtain ⟨v, rfl, hb2, hg2⟩ := hh
        refine ⟨by simp [hsz], .inr ⟨fun hms => ?_, updX xs i v, ?_, hb.trans (hb2.mono hb.size), fun j hj hjl => ?_⟩⟩
        · have := h1 hms
          rw [Array.getD_eq_getD_getElem?, Array.getElem?_setIfInBounds, if_neg (by omega), ← Array.getD_eq_getD_getElem?]; exact this
        · rw [putF_upd xs v ds 0 i a hap (Nat.zero_le _) (by omega), Nat.sub_zero]
        · rw [hset j (by omega)] at hjl
          unfold updX
          by_cases e : j = i
          · subst e; rw [if_pos rfl]; exact hg2
          · rw [if_neg e] at hjl ⊢
            exact hG j _ W W' hj (hg j hj hjl) hb2
      · have hmi : i = m := by omega
        subst hmi
        have h2 := hend xs W hb fun j hj => hg j hj (waits_listed q3 (hlast i j (Nat.le_refl _) q1 hj))
        rw [if_neg (by omega)] at h2
        refine wpOp_mono (fun a' W' hh => ⟨by simp [hsz], .inl ⟨q1, fun j hj => ?_, hh⟩⟩) h2
        rw [hset j hj]
        by_cases e : j = i
        · rw [if_pos e]
        · rw [if_neg e]
          exact waits_listed q3 (hlast i j (Nat.le_refl _) q1 (by omega))
end
/-- what a slot holds, whatever memory is made behind -/
structure StP where
  p : Value → World → Prop
  st : ∀ v W W', p v W → Below W.heap.size W W' → p v W'
def eqP (x : Value) : StP := ⟨fun v _ => v = x, fun _ _ _ h _ => h⟩
def anyP : StP := ⟨fun _ _ => True, fun _ _ _ _ _ => trivial⟩
/-- a new block, known whole, behind a pointer or a slice -/
def blkP (B : Nat) (mk : Nat → Value) (t : TypeId) (cs : Array Value) : StP := ⟨fun v W => ∃ b, v = mk b ∧ B ≤ b ∧ Blk W b t cs, fun _ _ _ ⟨b, h1, h2, h3⟩ hb => ⟨b, h1, h2, h3.below hb h3.lt⟩⟩
def ptrB (b : Nat) : Value := .pointer (some ⟨b, 0, none⟩)
def slcB (n : Nat) (b : Nat) : Value := .slice (some ⟨b, 0, none⟩) n n
def GP (l : List StP) (i : Nat) (v : Value) (W : World) : Prop := (l.getD i anyP).p v W
theorem region_growP {P : Program} {id : Nat} {ops : Array Oper} {Q : Exit → Act → World → Prop} {a : Act} {w : World} (hm : P.follows .mixedOrders = true) (ds : List (Option Tmp)) (l : List StP) (hap : ApartD ds) (hn : ds.length = ops.size) (he : earlier ops = true) (hmle : l.length ≤ ops.size)
    (hlast : ∀ i j, l.length ≤ i → i < ops.size → j < i → waits ops i j = true) (hmm : ops.size ≤ l.length + 1)
    (hstep : ∀ i, i < l.length → ∀ xs W, Below w.heap.size w W → (∀ j, j < l.length → waits ops i j = true → GP l j (xs j) W) → wpOp P ops Q i (fun a' W' => ∃ v, a' = (putF xs ds 0 a).put (ds.getD i none) v ∧ Below W.heap.size W W' ∧ GP l i v W') (putF xs ds 0 a) W)
    (hend : ∀ xs W, Below w.heap.size w W → (∀ i, i < l.length → GP l i (xs i) W) → if l.length = ops.size then Q .normal (putF xs ds 0 a) W else wpOp P ops Q l.length (fun a' W' => Q .normal a' W') (putF xs ds 0 a) W) :
    (Code.region id ops true).wp P Q a w :=
  region_grow hm ds hap hn he l.length hmle hlast hmm (GP l) (fun i v W W' _ h hb => (l.getD i anyP).st v W W' h hb) hstep hend
/-- a whole row is loaded -/
theorem row_step {P : Program} {ops : Array Oper} {Q : Exit → Act → World → Prop} {i : Nat} {a : Act} {W : World} {G : Value → World → Prop} {o : Oper} {d : Option Tmp} (ho : ops[i]? = some o) (hgd : o.guard = none) (hd : o.dst = d) (ty : TypeId) (x : Operand) (hop : o.op = .load ty x)
    (b off : Nat) (hx : a.eval x = .pointer (some ⟨b, off, none⟩)) (cs : List Value) (td : TypeDesc) (hc : W.rangeAt b off cs) (hu : P.underlying ty = some td) (hr : td.isRow = true) (hi : (P.info? ty).map (·.size) = some cs.length) (hG : G (.agg cs.toArray) W) :
    wpOp P ops Q i (fun a' W' => ∃ v, a' = a.put d v ∧ Below W.heap.size W W' ∧ G v W') a W := by
  refine wpOp_step ho fun K hK => ?_
  rw [if_pos (by simp [Region.wanted, hgd])]
  refine wp_load_mid ty x hop b off hx cs td hc hu hr hi ?_
  exact hK _ _ ⟨_, by rw [hd], Below.refl _ _, hG⟩
/-- a whole row is stored into a new block -/
theorem row_store {P : Program} {ops : Array Oper} {Q R : Exit → Act → World → Prop} {i : Nat} {a : Act} {W : World} {o : Oper} (ho : ops[i]? = some o) (hgd : o.guard = none) (hd : o.dst = none) (ty : TypeId) (x y : Operand) (hop : o.op = .store ty x y)
    (b off : Nat) (hx : a.eval x = .pointer (some ⟨b, off, none⟩)) (cs : List Value) (hy : a.eval y = .agg cs.toArray) (ht : W.there b off cs.length) (hi : (P.info? ty).map (·.size) = some cs.length) (h1 : ∀ v ∈ cs, v.oneCell' = true) (h : R .normal a (W.setCells b off cs)) :
    wpOp P ops Q i (fun a' W' => R .normal a' W') a W := by
  refine wpOp_step ho fun K hK => ?_
  rw [if_pos (by simp [Region.wanted, hgd])]
  refine wp_store_mid ty x y hop b off cs.toArray hx hy (by rw [List.size_toArray]; exact ht) (by rw [List.size_toArray]; exact hi) (all_oneCell_toArray h1) ?_
  refine hK _ _ ?_
  rw [hd]
  exact h
/-- a slice is built -/
theorem build_step {P : Program} {ops : Array Oper} {Q : Exit → Act → World → Prop} {i : Nat} {a : Act} {W W1 : World} {G : Value → World → Prop} {o : Oper} {d : Option Tmp} (ho : ops[i]? = some o) (hgd : o.guard = none) (hd : o.dst = d) (ty : TypeId) (n : Nat) (ps : Array (Nat × Operand)) (hop : o.op = .buildSlice ty n ps)
    (parts : Array (Nat × Value)) (hp : (ps.map fun p => (p.1, a.eval p.2)) = parts) (v : Value) (hrun : (Instr.buildSlice ty n parts).run P W = .ok v W1) (hb : Below W.heap.size W W1) (hG : G v W1) :
    wpOp P ops Q i (fun a' W' => ∃ v, a' = a.put d v ∧ Below W.heap.size W W' ∧ G v W') a W := by
  refine wpOp_step ho fun K hK => ?_
  rw [if_pos (by simp [Region.wanted, hgd])]
  unfold Oper.wp
  have he : (execOp a.eval o).run P W = .ok (.value v) W1 := by
    unfold execOp
    simp only [hop]
    rw [show (ps.map fun (p : Nat × Operand) => match p with | (i, x) => (i, a.eval x)) = parts from hp]
    simp [hrun]
  rw [he]
  exact hK _ _ ⟨_, by rw [hd], hb, hG⟩
end Go.Proofs.YtpeepdkeicgkiaaGreatDoor
namespace Go.Proofs.YtpeepdkeicgkiaaGreatDoor
set_option linter.unusedVariables false
set_option linter.unusedSimpArgs false
set_option linter.unusedSectionVars false
open Go.RowKit

def depsL (ops : Array Oper) (i : Nat) : List Nat := ((ops[i]?).map fun o => (o.after.toList.filter fun e => Region.binds .any e).map (·.on)).getD []
/-- what must have been done ahead, directly or through others -/
def reachL (ops : Array Oper) : Nat → Nat → List Nat
  | 0, _ => []
  | f + 1, i => depsL ops i ++ (depsL ops i).flatMap (reachL ops f)
section
variable {P : Program} {id : Nat} {ops : Array Oper} {Q : Exit → Act → World → Prop} {a : Act} {w : World}
theorem deps_listed {l : Array Bool} {i j : Nat} (h : ((ops[i]?).map (·.after.all fun e => !Region.binds .any e || l.getD e.on false)).getD false = true) (hj : j ∈ depsL ops i) : l.getD j false = true := by
  unfold depsL at hj
  cases ho : ops[i]? with
  | none => rw [ho] at h; cases h
  | some o =>
    rw [ho] at h hj
    simp only [Option.map_some, Option.getD_some] at h hj
    obtain ⟨e, he, rfl⟩ := List.mem_map.1 hj
    obtain ⟨h1, h2⟩ := List.mem_filter.1 he
    rw [Array.all_eq_true_iff_forall_mem] at h
    have h3 := h e (Array.mem_toList_iff.1 h1)
    rw [h2] at h3
    simpa using h3
/-- whatever is listed, what it waits for is listed -/
def Closed (ops : Array Oper) (l : Array Bool) : Prop := ∀ i, l.getD i false = true → ∀ j ∈ depsL ops i, l.getD j false = true
theorem reach_listed {l : Array Bool} (hc : Closed ops l) : ∀ f i, (∀ j ∈ depsL ops i, l.getD j false = true) → ∀ j ∈ reachL ops f i, l.getD j false = true
  | 0, i, _, j, hj => by cases hj
  | f + 1, i, h, j, hj => by
    unfold reachL at hj
    rcases List.mem_append.1 hj with hj | hj
    · exact h j hj
    · obtain ⟨k, hk, hj⟩ := List.mem_flatMap.1 hj
      exact reach_listed hc f k (hc k (h k hk)) j hj
theorem getD_set (l : Array Bool) (i j : Nat) : (l.setIfInBounds i true).getD j false = (if j = i ∧ i < l.size then true else l.getD j false) := by
  rw [Array.getD_eq_getD_getElem?, Array.getElem?_setIfInBounds]
  by_cases e : i = j
  · subst e
    by_cases h : i < l.size
    · rw [if_pos rfl, if_pos h, if_pos ⟨rfl, h⟩]; rfl
    · rw [if_pos rfl, if_neg h, if_neg fun q => h q.2, Array.getD_eq_getD_getElem?, Array.getElem?_eq_none (by omega)]
  · rw [if_neg e, if_neg fun q => e q.1.symm, ← Array.getD_eq_getD_getElem?]
theorem region_grow2 (hm : P.follows .mixedOrders = true) (ds : List (Option Tmp)) (L : List StP) (hap : ApartD ds) (hn : ds.length = ops.size) (he : earlier ops = true) (hsz2 : ops.size = L.length + 2)
    (hreach : ∀ j, j < L.length → j ∈ reachL ops 40 L.length) (hlast : L.length ∈ depsL ops (L.length + 1)) (R : Act → Act → World → Prop)
    (hstep : ∀ i, i < L.length → ∀ xs W, Below w.heap.size w W → (∀ j, L.length ≤ j → xs j = heldX a ds j) → (∀ j, j < L.length → waits ops i j = true → GP L j (xs j) W) → wpOp P ops Q i (fun a' W' => ∃ v, a' = (putF xs ds 0 a).put (ds.getD i none) v ∧ Below W.heap.size W W' ∧ GP L i v W') (putF xs ds 0 a) W)
    (hmid : ∀ xs W, Below w.heap.size w W → (∀ j, L.length ≤ j → xs j = heldX a ds j) → (∀ i, i < L.length → GP L i (xs i) W) → wpOp P ops Q L.length (R a) (putF xs ds 0 a) W)
    (hend : ∀ a' W', R a a' W' → wpOp P ops Q (L.length + 1) (fun a' W' => Q .normal a' W') a' W') :
    (Code.region id ops true).wp P Q a w := by
  generalize hLn : L.length = m at *
  refine wp_region_inv2 hm (fun a l a' W => l.size = ops.size ∧ Closed ops l ∧
    ((l.getD m false = false ∧ l.getD (m + 1) false = false ∧ ∃ xs, a' = putF xs ds 0 a ∧ Below w.heap.size w W ∧ (∀ j, m ≤ j → xs j = heldX a ds j) ∧ ∀ i, i < m → l.getD i false = true → GP L i (xs i) W) ∨
     (l.getD m false = true ∧ l.getD (m + 1) false = false ∧ (∀ j, j < m → l.getD j false = true) ∧ R a a' W) ∨
     ((∀ j, j < ops.size → l.getD j false = true) ∧ Q .normal a' W))) ?_ ?_ ?_
  · have h0 : ∀ i, (Array.replicate ops.size false).getD i false = false := fun i => by
      rw [Array.getD_eq_getD_getElem?, Array.getElem?_replicate]; split <;> rfl
    refine ⟨by simp, fun i h => (by rw [h0] at h; cases h), .inl ⟨h0 _, h0 _, heldX a ds, ?_, (Below.refl _ w).drew, fun _ _ => rfl, fun i hi h => (by rw [h0] at h; cases h)⟩⟩
    exact (putF_held a _ ds 0 fun i _ => by rw [Nat.zero_add]).symm
  · rintro l a' W ⟨hsz, hcl, hI⟩ hr
    have hall := all_listed hsz he hr
    have hall2 : ∀ i, i < ops.size → l.getD i false = true := fun i hi => by rw [getD_in (by omega) false true]; exact hall i hi
    rcases hI with ⟨h1, _⟩ | ⟨_, h1, _⟩ | ⟨_, hq⟩
    · rw [hall2 m (by omega)] at h1; cases h1
    · rw [hall2 (m + 1) (by omega)] at h1; cases h1
    · exact hq
  · rintro l a' W ⟨hsz, hcl, hI⟩ i hr
    obtain ⟨q1, q2, q3⟩ := ready_dep hr
    have q4 : l.getD i false = false := by rw [getD_in (by omega) false true]; exact q2
    have hdl : ∀ j ∈ depsL ops i, l.getD j false = true := fun j hj => deps_listed q3 hj
    have hcl2 : Closed ops (l.setIfInBounds i true) := fun k hk j hj => by
      rw [getD_set] at hk ⊢
      split
      · rfl
      · by_cases e : k = i
        · subst e; exact hdl j hj
        · rw [if_neg fun q => e q.1] at hk
          exact hcl k hk j hj
    have hs2 : (l.setIfInBounds i true).size = ops.size := by simp [hsz]
    rcases hI with ⟨h1, h2, xs, rfl, hb, hh0, hg⟩ | ⟨h1, h2, h3, hR⟩ | ⟨h1, _⟩
    · by_cases him : i < m
      · refine wpOp_mono (fun a' W' hh => ?_) (hstep i him xs W hb hh0 fun j hj hw => hg j hj (waits_listed q3 hw))
        obtain ⟨v, rfl, hb2, hg2⟩ := hh
        refine ⟨hs2, hcl2, .inl ⟨by rw [getD_set, if_neg (by omega)]; exact h1, by rw [getD_set, if_neg (by omega)]; exact h2, updX xs i v, ?_, hb.trans (hb2.mono hb.size), fun j hj => (by unfold updX; rw [if_neg (by omega)]; exact hh0 j hj), fun j hj hjl => ?_⟩⟩
        · rw [putF_upd xs v ds 0 i a hap (Nat.zero_le _) (by omega), Nat.sub_zero]
        · rw [getD_set] at hjl
          unfold updX
          by_cases e : j = i
          · subst e; rw [if_pos rfl]; exact hg2
          · rw [if_neg fun q => e q.1] at hjl
            rw [if_neg e]
            exact (L.getD j anyP).st _ W W' (hg j hj hjl) hb2
      · have hmi : i = m := by
          by_cases e : i = m + 1
          · subst e
            have := hdl m hlast
            rw [h1] at this; cases this
          · omega
        subst hmi
        have hre : ∀ j, j < i → l.getD j false = true := fun j hj => reach_listed hcl 40 i hdl j (hreach j hj)
        refine wpOp_mono (fun a' W' hh => ⟨hs2, hcl2, .inr (.inl ⟨by rw [getD_set, if_pos ⟨rfl, by omega⟩], by rw [getD_set, if_neg (by omega)]; exact h2, fun j hj => by rw [getD_set, if_neg (by omega)]; exact hre j hj, hh⟩)⟩) (hmid xs W hb hh0 fun j hj => hg j hj (hre j hj))
    · have hmi : i = m + 1 := by
        by_cases e : i < m
        · rw [h3 i e] at q4; cases q4
        · by_cases e2 : i = m
          · subst e2; rw [h1] at q4; cases q4
          · omega
      subst hmi
      refine wpOp_mono (fun a' W' hh => ⟨hs2, hcl2, .inr (.inr ⟨fun j hj => ?_, hh⟩)⟩) (hend _ _ hR)
      rw [getD_set]
      split
      · rfl
      · next hne =>
        by_cases e : j = m
        · subst e; exact h1
        · exact h3 j (by omega)
    · rw [h1 i q1] at q4; cases q4
end
end Go.Proofs.YtpeepdkeicgkiaaGreatDoor
