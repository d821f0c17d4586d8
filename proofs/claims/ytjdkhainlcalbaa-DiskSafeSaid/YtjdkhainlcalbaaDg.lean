/- A crash: laws that its walk needs. -/
import Derived.Test.YtjdkhainlcalbaaDf
import Derived.Test.YtjdkhainlcalbaaWb
import Derived.LaidEqlPtr
namespace Go.Proofs.Ytjdkhainlcalbaa
open Go.RowKit Go.Maps

section
variable {P : Program} {w : World} {ops : Array Oper} {rest : List Oper} {o : Oper} {a : Act} {Q : Exit → Act → World → Prop}
/-- m[k] without ok, at a key that is there -/
theorem wpList_kvThere (hg : o.guard = none) (m x : Operand) (t : TypeId) (hop : o.op = Op.lookup t m x false)
    {k e : TypeId} (hk : P.underlying k = some .string) (ht : P.underlying t = some (.map k e)) {z : Value} (hz : (zeroValue e).run P w = .ok z w) {b : Nat} {l : List (ByteArray × Value)}
    (hm : a.eval m = .map (some b)) (hown : ownsKV w P k b l) {s : ByteArray} (hx : a.eval x = .string s) (hs : s.size ≤ maxLen) {v : Value} (hv : kvGet l s = some v)
    (hK : wpList P ops Q rest (a.put o.dst v) w) :
    wpList P ops Q (o :: rest) a w := by
  refine wpList_plain hg fun K' hK' => ?_
  obtain ⟨u, ps, hrun, hu⟩ := World.ownsMap.lookup hown (string_keyed hk) ht hz (R := heldR) (zd := .held z) (zp := []) rfl (WideMaps.keyOf_string_mk hk hs)
  rw [toD_at, hv] at hu
  simp [heldR] at hu
  obtain ⟨rfl, _⟩ := hu
  unfold Oper.wp
  simp [execOp, hop, hm, hx, hrun, Result.andThen]
  exact hK' _ _ hK
end

theorem flat4 {α : Type} (f : α → List Value) (hf : ∀ s, (f s).length = 4) (l : List α) (k j : Nat) (hk : k < l.length) (hj : j < 4) : (l.flatMap f)[k * 4 + j]? = (f l[k])[j]? := by
  induction l generalizing k with
  | nil => simp at hk
  | cons x r ih =>
    rw [List.flatMap_cons]
    cases k with
    | zero => rw [List.getElem?_append_left (by rw [hf]; omega)]; simp
    | succ k =>
      rw [List.getElem?_append_right (by rw [hf]; omega), hf, show (k + 1) * 4 + j - 4 = k * 4 + j by omega, ih k (by simpa using hk)]
      simp

/-- the cells of a step -/
theorem step_cell {w : World} {v : Value} {l : List Sp} {bs : List Nat} (h : w.ownsRow 0 120 4 v l.length (l.flatMap (stepCells bs))) {k : Nat} (hk : k < l.length) :
    ∃ g cap, v = .slice (some ⟨g, 0, none⟩) l.length cap ∧ g < w.heap.size ∧ ∀ j, j < 4 → w.cell? ⟨g, k * 4 + j, none⟩ = (stepCells bs l[k])[j]? := by
  rcases h.2 with ⟨_, h0⟩ | ⟨g, cap, cur, hv, _⟩
  · omega
  · subst hv
    refine ⟨g, cap, rfl, (ownsRow_lt h (k := g) rfl).2, fun j hj => ?_⟩
    have h4 := flat4 (stepCells bs) (fun s => rfl) l k j hk hj
    have hj' : j < (stepCells bs l[k]).length := hj
    rw [List.getElem?_eq_getElem hj'] at h4 ⊢
    have := World.ownsRow.cells h (g := g) rfl _ _ h4
    have hadd : (⟨g, 0, none⟩ : Addr).add (k * 4 + j) = ⟨g, 0 + (k * 4 + j), none⟩ := by unfold Addr.add; split <;> simp_all
    rw [hadd, Nat.zero_add] at this; exact this

/-- every name that is left has a file -/
theorem kvNames_mem {α : Type} {l : List (ByteArray × α)} {s : ByteArray} (h : s ∈ kvNames l) : ∃ v, (s, v) ∈ l := by
  unfold kvNames at h
  obtain ⟨x, hx, rfl⟩ := List.mem_map.1 h
  have h1 := (List.mergeSort_perm _ _).mem_iff.1 hx
  obtain ⟨p, hp, rfl⟩ := List.mem_map.1 h1
  refine ⟨p.2, ?_⟩
  have e : kvNames.strM p.1.data.toList = p.1 := ByteArray.ext (by simp [kvNames.strM])
  rw [e]; exact hp
theorem kvNames_get {l : List (ByteArray × Nat)} (ha : kvApart l) {k : Nat} (hk : k < (kvNames l).length) : ∃ i, ((kvNames l)[k], i) ∈ l ∧ kvGet l (kvNames l)[k] = some i := by
  obtain ⟨i, hi⟩ := kvNames_mem (List.getElem_mem hk)
  exact ⟨i, hi, kvGet_of_mem ha hi⟩
theorem kvNames_nodup {α : Type} {l : List (ByteArray × α)} (ha : kvApart l) : (kvNames l).Nodup := by
  unfold kvNames
  have h1 : (l.map (·.1.data.toList)).Nodup := by
    unfold List.Nodup
    rw [List.pairwise_map]
    exact ha.imp fun {p q} h e => h (ba_eq.1 e)
  have h2 : (kvSort (l.map (·.1.data.toList))).Nodup := (List.mergeSort_perm _ _).nodup_iff.2 h1
  unfold List.Nodup at h2 ⊢
  rw [List.pairwise_map]
  exact h2.imp fun {p q} h e => h (by simpa [kvNames.strM] using e)

section
variable {ks : List Int} {left : List (ByteArray × Nat)} {i : Nat} {kind : Int} {src dst : ByteArray} {id : Nat}
theorem leftStep_skip (s : Sp) (h : sayI ks i % 2 = 0) : leftStep ks left i s = left := by unfold leftStep; rw [if_pos h]
theorem leftStep_put (h : ¬ sayI ks i % 2 = 0) (hg : kvGet left src = none) : leftStep ks left i ⟨1, src, dst, id⟩ = kvPut left src id := by
  unfold leftStep; rw [if_neg h, if_pos ⟨rfl, hg⟩]
theorem leftStep_ren (h : ¬ sayI ks i % 2 = 0) (hg : kvGet left src = some id) : leftStep ks left i ⟨2, src, dst, id⟩ = kvPut (kvDel left src) dst id := by
  unfold leftStep; rw [if_neg h, if_neg (by simp), if_pos ⟨rfl, hg⟩]
theorem leftStep_del (h : ¬ sayI ks i % 2 = 0) (hg : kvGet left src = some id) : leftStep ks left i ⟨3, src, dst, id⟩ = kvDel left src := by
  unfold leftStep; rw [if_neg h, if_neg (by simp), if_neg (by simp), if_pos ⟨rfl, hg⟩]
theorem leftStep_none (hg : kvGet left src = none) (hk : kind ≠ 1) : leftStep ks left i ⟨kind, src, dst, id⟩ = left := by
  unfold leftStep; simp [hg, hk]
theorem leftStep_other {j : Nat} (hg : kvGet left src = some j) (hj : j ≠ id) : leftStep ks left i ⟨kind, src, dst, id⟩ = left := by
  unfold leftStep; simp [hg, hj]
theorem leftStep_kind {j : Nat} (hg : kvGet left src = some j) (h2 : kind ≠ 2) (h3 : kind ≠ 3) : leftStep ks left i ⟨kind, src, dst, id⟩ = left := by
  unfold leftStep; simp [hg, h2, h3]
end
theorem sayI_ok {ks : List Int} (h : ∀ x ∈ ks, -9223372036854775808 ≤ x ∧ x ≤ 9223372036854775807) (i : Nat) : -9223372036854775808 ≤ sayI ks i ∧ sayI ks i ≤ 9223372036854775807 := by
  unfold sayI
  split
  · omega
  · next h0 =>
    have hm : i % ks.length < ks.length := Nat.mod_lt _ (List.length_pos_iff.2 h0)
    rw [List.getD, List.getElem?_eq_getElem hm]
    exact h _ (List.getElem_mem hm)

theorem infoFile : ∃ j, Try.prog.info? 118 = some j ∧ j.size ≠ 0 := by
  have h : (Try.prog.info? 118).map (fun i => i.size) = some 2 := by kernel_rfl
  obtain ⟨j, hj, hs⟩ := Option.map_eq_some_iff.1 h
  exact ⟨j, hj, by omega⟩
theorem file_same (w : World) (c : Nat) : (binOp .eql 115 (.pointer (some ⟨c, 0, none⟩)) (.pointer (some ⟨c, 0, none⟩))).run Try.prog w = .ok (.bool true) w := by
  obtain ⟨j, hj, _⟩ := infoFile
  exact run_eql_ptr_same w ⟨c, 0, none⟩ Try.underlying115 hj
theorem file_other {w : World} {c d : Nat} {xs ys : Array Value} (hc : BlockIs w c xs 118) (hd : BlockIs w d ys 118) (h : c ≠ d) :
    (binOp .eql 115 (.pointer (some ⟨c, 0, none⟩)) (.pointer (some ⟨d, 0, none⟩))).run Try.prog w = .ok (.bool false) w := by
  obtain ⟨j, hj, hs⟩ := infoFile
  exact run_eql_ptr_other w Try.underlying115 hj hs (fun e => h (congrArg Addr.block e)) hc hd

/-- the file that has the place i among those that are left -/
def Dk.newFl (D : Dk) (ks : List Int) (i : Nat) : Fl := D.leftFile ks i ((D.leftNames ks).getD i ByteArray.empty)
theorem newFolder_ids (D : Dk) (ks : List Int) (k : Nat) : ∀ p ∈ D.newFolder ks k, p.2 < k := by
  induction k with
  | zero => intro p hp; simp [Dk.newFolder] at hp
  | succ k ih =>
    intro p hp
    rcases kvPut_mem hp with rfl | h
    · exact Nat.lt_succ_self _
    · exact Nat.lt_succ_of_lt (ih p h)
theorem newFolder_apart (D : Dk) (ks : List Int) (k : Nat) : kvApart (D.newFolder ks k) := by
  induction k with
  | zero => exact List.Pairwise.nil
  | succ k ih => exact kvApart_put _ _ ih
theorem getD_left {l : List Nat} {n i : Nat} (h : i < l.length) : (l ++ [n]).getD i 0 = l.getD i 0 := by
  simp [List.getD, List.getElem?_append_left h]
theorem getD_last (l : List Nat) (n : Nat) : (l ++ [n]).getD l.length 0 = n := by
  simp [List.getD]
/-- behind k of the files that are left: the new map, the new files -/
structure NewAt (w6 wr : World) (fm : Nat) (D : Dk) (ks : List Int) (k : Nat) (newbs : List Nat) : Prop where
  touch : Touch (· = fm) w6 wr
  len : newbs.length = k
  new : ∀ c ∈ newbs, w6.heap.size ≤ c
  nd : newbs.Nodup
  fs : ∀ i, i < k → BlockIs wr (newbs.getD i 0) (flCells (D.newFl ks i)) 118
  mp : ownsKV wr Try.prog 9 fm (kvMap (fileV newbs) (D.newFolder ks k))
theorem NewAt.lt {w6 wr : World} {fm : Nat} {D : Dk} {ks : List Int} {k : Nat} {newbs : List Nat} (h : NewAt w6 wr fm D ks k newbs) : ∀ c ∈ newbs, c < wr.heap.size := by
  intro c hc
  obtain ⟨i, hi, rfl⟩ := List.getElem_of_mem hc
  have := (h.fs i (by rw [← h.len]; exact hi)).lt
  simpa [List.getD, List.getElem?_eq_getElem hi] using this
theorem NewAt.step {w6 wr w' : World} {fm : Nat} {D : Dk} {ks : List Int} {k : Nat} {newbs : List Nat} (h : NewAt w6 wr fm D ks k newbs) (hfm : fm < w6.heap.size) {n0 : Nat} (hn : wr.heap.size ≤ n0) (ht : Touch (· = fm) wr w')
    (hb : BlockIs w' n0 (flCells (D.newFl ks k)) 118) (hm : ownsKV w' Try.prog 9 fm (kvPut (kvMap (fileV newbs) (D.newFolder ks k)) ((D.leftNames ks).getD k ByteArray.empty) (ptrV n0))) : NewAt w6 w' fm D ks (k + 1) (newbs ++ [n0]) where
  touch := h.touch.trans ht (fun _ _ h => h)
  len := by rw [List.length_append, h.len]; rfl
  new := by
    intro c hc
    rcases List.mem_append.1 hc with hc | hc
    · exact h.new c hc
    · rw [List.mem_singleton.1 hc]; exact Nat.le_trans h.touch.size hn
  nd := by
    refine List.nodup_append.2 ⟨h.nd, by simp, ?_⟩
    intro c hc d hd e
    have h1 := h.lt c hc
    rw [List.mem_singleton.1 hd] at e; omega
  fs := by
    intro i hi
    by_cases hk : i < k
    · rw [getD_left (by rw [h.len]; exact hk)]
      have h1 := h.fs i hk
      have h2 : newbs.getD i 0 ∈ newbs := getD_mem (by rw [h.len]; exact hk)
      exact h1.keep (ht.block _ h1.lt (by have := h.new _ h2; omega))
    · obtain rfl : i = k := by omega
      have e : (newbs ++ [n0]).getD i 0 = n0 := by rw [← h.len]; exact getD_last _ _
      rw [e]; exact hb
  mp := by
    show ownsKV w' _ _ fm (kvMap (fileV (newbs ++ [n0])) (kvPut (D.newFolder ks k) ((D.leftNames ks).getD k ByteArray.empty) k))
    rw [← kvPut_map, show fileV (newbs ++ [n0]) k = ptrV n0 by rw [← h.len]; exact fileV_new _ _,
      kvMap_congr (g := fileV newbs) (fun p hp => fileV_old (by rw [h.len]; exact newFolder_ids D ks k p hp))]
    exact hm

/-- an owned row of texts, to be read -/
theorem row_reads {w : World} {base : Nat} {e : TypeId} {v : Value} {l : List ByteArray} (h : w.ownsRow base e 1 v l.length (l.map .string)) :
    ∃ a c, v = .slice a l.length c ∧ ∀ i (hi : i < l.length), ∃ g, a = some ⟨g, 0, none⟩ ∧ base ≤ g ∧ g < w.heap.size ∧ w.cell? ⟨g, i, none⟩ = some (.string l[i]) := by
  rcases h.2 with ⟨hv, h0⟩ | ⟨g, cap, cur, hv, _⟩
  · exact ⟨none, 0, by rw [hv, h0], fun k hk => by omega⟩
  · subst hv
    refine ⟨_, _, rfl, fun i hi => ⟨g, rfl, (ownsRow_lt h (k := g) rfl).1, (ownsRow_lt h (k := g) rfl).2, ?_⟩⟩
    have := own_cell h (j := i) (u := .string l[i]) (by simp [List.getElem?_eq_getElem hi])
    have hadd : (⟨g, 0, none⟩ : Addr).add i = ⟨g, 0 + i, none⟩ := by unfold Addr.add; split <;> simp_all
    rw [hadd, Nat.zero_add] at this; exact this

theorem keepN_le {D : Dk} (h : DkOk D) (ks : List Int) (i id : Nat) : D.keepN ks i id ≤ (D.flAt id).data.size := by
  have hz := (flAt_le h id).2
  unfold Dk.keepN
  have h1 := Int.emod_lt_of_pos (sayI ks (D.steps.length + i)) (b := (((D.flAt id).data.size - (D.flAt id).safe + 1 : Nat) : Int)) (by omega)
  omega
theorem newFl_ok {D : Dk} (h : DkOk D) (ks : List Int) (i : Nat) : (D.newFl ks i).data.size ≤ 1073741824 ∧ (D.newFl ks i).safe ≤ (D.newFl ks i).data.size := by
  unfold Dk.newFl Dk.leftFile
  simp only [ByteArray.size_extract]
  generalize (kvGet (D.left ks) ((D.leftNames ks).getD i ByteArray.empty)).getD 0 = id
  have h1 := keepN_le h ks i id
  have h2 := (flAt_le h id).1
  omega
theorem leftNames_size {D : Dk} (h : DkOk D) (ks : List Int) (k : Nat) : ((D.leftNames ks).getD k ByteArray.empty).size ≤ 80 := by
  by_cases hk : k < (D.leftNames ks).length
  · rw [List.getD, List.getElem?_eq_getElem hk]
    obtain ⟨i, hi⟩ := kvNames_mem (l := D.left ks) (List.getElem_mem hk)
    exact (h.leftAt ks D.steps.length).nam _ hi
  · rw [List.getD, List.getElem?_eq_none (by omega)]; exact Nat.zero_le _
theorem newFolder_nam {D : Dk} (h : DkOk D) (ks : List Int) (k : Nat) : ∀ p ∈ D.newFolder ks k, p.1.size ≤ 80 := by
  induction k with
  | zero => intro p hp; simp [Dk.newFolder] at hp
  | succ k ih =>
    intro p hp
    rcases kvPut_mem hp with rfl | h1
    · exact leftNames_size h ks k
    · exact ih p h1
theorem crash_files (D : Dk) (ks : List Int) : (D.crash ks).files.length = (D.leftNames ks).length := by
  simp [Dk.crash, Dk.newFiles]
theorem crash_flAt (D : Dk) (ks : List Int) (i : Nat) (h : i < (D.leftNames ks).length) : (D.crash ks).flAt i = D.newFl ks i := by
  unfold Dk.flAt Dk.crash Dk.newFiles Dk.newFl
  simp [List.getD, h]
theorem DkOk.crash {D : Dk} (h : DkOk D) (ks : List Int) : DkOk (D.crash ks) where
  fol := fun p hp => by rw [crash_files]; exact newFolder_ids D ks _ p hp
  sur := fun p hp => by rw [crash_files]; exact newFolder_ids D ks _ p hp
  stp := fun s hs => by simp [Dk.crash] at hs
  fap := newFolder_apart D ks _
  sap := newFolder_apart D ks _
  fln := by rw [crash_files]; exact D.newFolder_len ks _
  sln := by rw [crash_files]; exact D.newFolder_len ks _
  dat := by
    intro f hf
    obtain ⟨i, hi, rfl⟩ := List.mem_map.1 (show f ∈ (List.range _).map _ from hf)
    exact newFl_ok h ks i
  arm := ⟨by simp [Dk.crash], by simp [Dk.crash]⟩
  rm := h.rm
  nam := newFolder_nam h ks _
  snm := newFolder_nam h ks _
theorem crash_fin {w w6 wr w8 w9 : World} {b fm : Nat} {D : Dk} {L : Lay} {ks : List Int} {newbs : List Nat} (H : DiskAt w b D L) (h6 : Below w.heap.size w w6) (hfm : fm < w6.heap.size) (hfw : w.heap.size ≤ fm)
    (HA : NewAt w6 wr fm D ks (D.leftNames ks).length newbs) (hcl : ownsKV w8 Try.prog 9 wr.heap.size (kvMap (fileV newbs) (D.newFolder ks (D.leftNames ks).length))) (h8 : Below wr.heap.size wr w8) (h9 : Touch (· = b) w8 w9)
    (hb : BlockIs w9 b (dkCells D.room fm wr.heap.size (.slice none 0 0) (-1) false) 114) : DkPost b L (D.crash ks) w w9 := by
  have hbl := H.blk.lt
  have hz6 := h6.size
  have hzr := HA.touch.size
  have hz8 := h8.size
  have hcw := ownsKV_lt hcl
  have hk : ∀ k, k < wr.heap.size → k ≠ b → w9.heap[k]? = wr.heap[k]? := fun k h1 h2 => (h9.block k (by omega) h2).trans (h8.block k h1)
  refine ⟨⟨fm, wr.heap.size, .slice none 0 0, newbs⟩, ?_, ?_, ?_⟩
  · exact
    { blk := hb
      mp := ownsKV_block HA.mp (hk fm (by omega) (by omega))
      sf := ownsKV_block hcl (h9.block wr.heap.size hcw (show ¬ wr.heap.size = b by omega))
      st := ⟨rfl, Or.inl ⟨rfl, rfl⟩⟩
      len := by rw [crash_files]; exact HA.len
      fs := fun i hi => by
        rw [crash_files] at hi
        have hm : newbs.getD i 0 ∈ newbs := getD_mem (by rw [HA.len]; exact hi)
        have h1 := HA.lt _ hm
        have h2 := HA.new _ hm
        rw [crash_flAt D ks i hi]
        exact (HA.fs i hi).keep (hk _ h1 (by show newbs.getD i 0 ≠ b; omega))
      nd := by
        simp only [foot, Value.ownBlock, Option.toList, List.nil_append, List.nodup_cons, List.mem_cons, not_or]
        exact ⟨⟨by omega, by omega, fun h => by have := HA.new _ h; omega⟩, ⟨by omega, fun h => by have := HA.new _ h; omega⟩, fun h => by have := HA.lt _ h; omega, HA.nd⟩
      ok := H.ok.crash ks }
  · exact ((((Touch.of_below (fun _ => False) h6).trans HA.touch (fun i hi e => by omega)).trans (Touch.of_below (fun _ => False) h8) (fun _ _ h => h.elim)).mono (fun _ _ h => h.elim)).trans h9 (fun i _ hi => by simp [foot, hi])
  · intro k hk
    have hk : k = b ∨ k = fm ∨ k = wr.heap.size ∨ k ∈ newbs := by
      simpa only [foot, List.mem_cons, List.mem_append, Value.ownBlock, Option.mem_toList, reduceCtorEq, false_or] using hk
    rcases hk with rfl | rfl | rfl | hk
    · exact Or.inl (by simp [foot])
    · exact Or.inr hfw
    · exact Or.inr (by omega)
    · exact Or.inr (by have := HA.new _ hk; omega)
end Go.Proofs.Ytjdkhainlcalbaa
