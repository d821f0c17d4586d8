/- Maps with string keys: a look-up with one value; a literal's entry; sets of texts. -/
import Derived.Test.YtaoejgnfoecpfaaDoorKr
namespace Go.Proofs.YtaoejgnfoecpfaaDoor
open Go.RowKit Go.Maps

section
variable {P : Program} {w : World} {ops : Array Oper} {rest : List Oper} {o : Oper} {a : Act} {Q : Exit → Act → World → Prop}
theorem wpList_kvInsert (hg : o.guard = none) (m x v : Operand) (t : TypeId) (hop : o.op = Op.insert t m x v)
    {k e : TypeId} (hk : P.underlying k = some .string) (ht : P.underlying t = some (.map k e)) {b : Nat} {l : List (ByteArray × Value)}
    (hm : a.eval m = .map (some b)) (hown : ownsKV w P k b l) (hn : l.length < 1099511627776) {s : ByteArray} {u : Value} (hx : a.eval x = .string s) (hs : s.size ≤ maxLen) (hv : a.eval v = u)
    (hK : ∀ w', ownsKV w' P k b (kvPut l s u) → w.mapTurned w' b → wpList P ops Q rest (a.put o.dst undef) w') :
    wpList P ops Q (o :: rest) a w := by
  refine wpList_plain hg fun K' hK' => ?_
  obtain ⟨w', hrun, r1, r2⟩ := World.ownsMap.store hown (string_keyed hk) ht (by unfold maxLen; omega) (WideMaps.keyOf_string_mk hk hs) (val := u) (d := .held u) (ps := []) rfl
  unfold Oper.wp
  simp [execOp, hop, hm, hx, hv, hrun, Result.andThen]
  rw [toD_put] at r1
  exact hK' _ _ (hK w' (ownsKV_of r1) r2)
theorem wpList_kvGet (hg : o.guard = none) (m x : Operand) (t : TypeId) (hop : o.op = Op.lookup t m x false)
    {k e : TypeId} (hk : P.underlying k = some .string) (ht : P.underlying t = some (.map k e)) {z : Value} (hz : (zeroValue e).run P w = .ok z w) {b : Nat} {l : List (ByteArray × Value)}
    (hm : a.eval m = .map (some b)) (hown : ownsKV w P k b l) {s : ByteArray} (hx : a.eval x = .string s) (hs : s.size ≤ maxLen) {v : Value} (hv : (kvGet l s).getD z = v)
    (hK : wpList P ops Q rest (a.put o.dst v) w) :
    wpList P ops Q (o :: rest) a w := by
  refine wpList_plain hg fun K' hK' => ?_
  obtain ⟨u, ps, hrun, hu⟩ := World.ownsMap.lookup hown (string_keyed hk) ht hz (zd := .held z) (zp := []) rfl (WideMaps.keyOf_string_mk hk hs)
  unfold Oper.wp
  simp [execOp, hop, hm, hx, hrun, Result.andThen]
  rw [toD_at, hv] at hu
  simp [heldR] at hu
  obtain ⟨rfl, _⟩ := hu
  exact hK' _ _ hK
end
theorem kvGet_ins {α : Type} (x : ByteArray × α) (k : ByteArray) : ∀ (l : List (ByteArray × α)), (∀ p ∈ l, p.1 ≠ x.1) → kvGet (kvIns x l) k = if x.1 = k then some x.2 else kvGet l k
  | [], _ => by
    unfold kvIns kvGet
    by_cases h : x.1 = k <;> simp [h]
  | y :: r, h => by
    unfold kvIns
    split
    · unfold kvGet
      by_cases hk : x.1 = k <;> simp [hk]
    · have ih := kvGet_ins x k r (fun p hp => h p (by simp [hp]))
      have hy := h y (by simp)
      unfold kvGet at ih ⊢
      by_cases hyk : y.1 = k
      · have hx : ¬ x.1 = k := fun e => hy (hyk.trans e.symm)
        simp [hyk, hx]
      · rw [List.find?_cons_of_neg (by simpa using hyk), List.find?_cons_of_neg (by simpa using hyk)]
        exact ih
theorem kvGet_del {α : Type} (l : List (ByteArray × α)) (k j : ByteArray) (h : k ≠ j) : kvGet (kvDel l k) j = kvGet l j := by
  unfold kvGet kvDel
  rw [List.find?_filter]
  congr 2
  funext p
  by_cases hp : p.1 = j
  · have : p.1 ≠ k := fun e => h (e.symm.trans hp)
    simp [hp]
    exact fun e => h e.symm
  · simp [hp]
theorem kvGet_put' {α : Type} (l : List (ByteArray × α)) (k : ByteArray) (v : α) (j : ByteArray) : kvGet (kvPut l k v) j = if k = j then some v else kvGet l j := by
  unfold kvPut
  rw [kvGet_ins (k, v) j (kvDel l k) (fun p hp => by unfold kvDel at hp; simpa using (List.mem_filter.1 hp).2)]
  by_cases h : k = j
  · simp only; rw [if_pos h, if_pos h]
  · simp only; rw [if_neg h, if_neg h, kvGet_del l k j h]
/-- a set of texts, as a map that says true -/
def setV (l : List ByteArray) : List (ByteArray × Value) := l.foldl (fun m k => kvPut m k (.bool true)) []
theorem setV_snoc (l : List ByteArray) (k : ByteArray) : setV (l ++ [k]) = kvPut (setV l) k (.bool true) := by unfold setV; rw [List.foldl_append]; rfl
theorem setV_gen : ∀ (l : List ByteArray) (m : List (ByteArray × Value)) (P : List ByteArray), (∀ j, (kvGet m j).getD (.bool false) = .bool (P.any fun x => decide (x = j))) → ∀ j, (kvGet (l.foldl (fun m k => kvPut m k (.bool true)) m) j).getD (.bool false) = .bool ((P ++ l).any fun x => decide (x = j))
  | [], m, P, h, j => by rw [List.append_nil]; exact h j
  | k :: r, m, P, h, j => by
    have e : P ++ k :: r = (P ++ [k]) ++ r := by simp
    rw [e]
    refine setV_gen r (kvPut m k (.bool true)) (P ++ [k]) (fun i => ?_) j
    rw [kvGet_put']
    by_cases hk : k = i
    · subst hk
      rw [if_pos rfl]
      simp
    · rw [if_neg hk, h i]
      congr 1
      rw [List.any_append]
      simp [hk]
theorem setV_get (l : List ByteArray) (j : ByteArray) : (kvGet (setV l) j).getD (.bool false) = .bool (l.any fun x => decide (x = j)) := by
  have := setV_gen l [] [] (fun j => rfl) j
  rwa [List.nil_append] at this
theorem kvPut_lenX {α : Type} (l : List (ByteArray × α)) (k : ByteArray) (v : α) : (kvPut l k v).length ≤ l.length + 1 := by
  have hi : ∀ (x : ByteArray × α) (l : List (ByteArray × α)), (kvIns x l).length = l.length + 1 := by
    intro x l
    induction l with
    | nil => rfl
    | cons y r ih => unfold kvIns; split <;> simp [ih]
  unfold kvPut
  rw [hi]
  have := List.length_filter_le (fun p : ByteArray × α => decide (p.1 ≠ k)) l
  unfold kvDel
  omega
theorem setV_len (l : List ByteArray) : (setV l).length ≤ l.length := by
  have hg : ∀ (l : List ByteArray) (m : List (ByteArray × Value)), (l.foldl (fun m k => kvPut m k (.bool true)) m).length ≤ m.length + l.length := by
    intro l
    induction l with
    | nil => intro m; simp
    | cons k r ih =>
      intro m
      simp only [List.foldl_cons, List.length_cons]
      have h1 := ih (kvPut m k (.bool true))
      have h2 := kvPut_lenX m k (Value.bool true)
      omega
  have := hg l []
  rw [List.length_nil, Nat.zero_add] at this
  exact this
end Go.Proofs.YtaoejgnfoecpfaaDoor
