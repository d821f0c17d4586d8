/- General lemmas over any program: a slice that the call itself makes, one element appended; bytes made a string. Places of a row exchanged, rows turned: the library's walks, over any program that bears these bodies. Rows turned: the library's walk, over any program that bears these bodies. A merge in place: the library's walk, over any program that bears these bodies. A merge in place of one element behind: the library's walk, over any program that bears these bodies. Regions that draw their order and hold calls that make memory: one walk serves every order. -/
import Derived.Test.YtaoejgnfoecpfaaDoorRows
import Derived.WalkKit
import Derived.WalkSpells
import Derived.WalkLawsBesides
import Derived.LoopTactic
import Derived.Outline
import Derived.Deep.QuietTactic
import Derived.BigQuiet
import Derived.Lib.Hide
import Derived.Laws.BytesArg
import Derived.Maps.AppendAt
import Derived.Test.YtaoejgnfoecpfaaDoorJt1
import Derived.Shelf.SlSortCmp.InsertionK
namespace Go.Proofs.YtaoejgnfoecpfaaDoor
set_option linter.unusedVariables false
set_option linter.unusedSimpArgs false
set_option linter.unusedSectionVars false
open Go.RowKit

def bytesV (l : List UInt8) : List Value := l.map fun c => .int .u8 c.toNat
theorem bytesV_len (l : List UInt8) : (bytesV l).length = l.length := by simp [bytesV]
theorem bytesV_app (l m : List UInt8) : bytesV (l ++ m) = bytesV l ++ bytesV m := by simp [bytesV]

/-- append(v, x) of one element: v is nil or the call's own; the source is the one-element block just made. -/
theorem wpList_app1 {P : Program} {w : World} {ops : Array Oper} {rest : List Oper} {o : Oper} {a : Act} {Q : Exit → Act → World → Prop} (hgd : o.guard = none) (s x : Operand) (t : TypeId)
    (ho : o.op = .call { callee := .builtin .append, args := #[s, x], argTypes := #[t, t] })
    (base : Nat) (e : TypeId) {z : Value} {size bytes : Nat} (ht : P.underlying t = some (.slice e))
    (hinfo : (P.info? e).map (fun i => (i.zero, i.size, i.bytes)) = some (some z, size, bytes)) (hzs : z.cells.size = size) (hsz : 0 < size)
    (v : Value) (n : Nat) (xs : List Value) (hs : a.eval s = v) (hown : w.ownsRow base e size v n xs)
    (cs : Array Value) (hx : a.eval x = .slice (some ⟨w.heap.size, 0, none⟩) 1 1) (hl : cs.size = size) (h1 : ∀ u ∈ cs.toList, u.oneCell' = true)
    (hbytes : (n + 1) * bytes ≤ 140737488355328) (h63 : n + 1 ≤ 140737488355328) (hbase : base ≤ w.heap.size)
    (h : ∀ g cap w', w'.ownsRow base e size (.slice (some ⟨g, 0, none⟩) (n + 1) cap) (n + 1) (xs ++ cs.toList) → w.grownBy w' v.ownBlock → Below base w w' → (v.ownBlock = some g ∨ g = w.heap.size + 1) → wpList P ops Q rest (a.put o.dst (.slice (some ⟨g, 0, none⟩) (n + 1) cap)) w') :
    wpList P ops Q (o :: rest) a (w.alloc (.cells cs e)) := by
  obtain ⟨i0, hi, hz0, hz1, hz2⟩ := info_parts hinfo
  refine wpList_append_own_at _ hgd s x t ho base e i0 z size bytes ht hi hz0 hz1 hz2 hzs hsz v n xs hs (hown.alloc _) ⟨w.heap.size, 0, none⟩ 1 1 cs.toList hx (by simp [hl]) ?_ h1 (by unfold maxLen; omega) hbytes (by simp; omega) ?_
  · intro j u hj
    have hadd : (⟨w.heap.size, 0, none⟩ : Addr).add j = ⟨w.heap.size, j, none⟩ := by unfold Addr.add; split <;> simp_all
    rw [hadd, World.cell?_alloc_at _ _ _ _ rfl]
    simpa using hj
  · intro v' w' hown' hg _ hloc
    have hgr : w.grownBy w' v.ownBlock := (World.grownBy_alloc w _ _).trans hg
    obtain ⟨g', cap', rfl⟩ : ∃ g cap, v' = .slice (some ⟨g, 0, none⟩) (n + 1) cap := by
      rcases hown'.2 with ⟨_, h0⟩ | ⟨g, cap, _, hv, _⟩
      · omega
      · exact ⟨g, cap, hv⟩
    refine h g' cap' w' hown' hgr ?_ (by
      rcases hloc with e | e
      · exact Or.inl e.symm
      · simp [Value.ownBlock] at e; exact Or.inr e)
    refine (Below.refl base w).grown hgr hbase ?_
    intro k hk
    obtain ⟨_, hv | ⟨g, cap, cur, hv, hg', _⟩⟩ := hown
    · rw [hv.1] at hk; simp [Value.ownBlock] at hk
    · rw [hv] at hk; simp [Value.ownBlock] at hk; omega

theorem oneCell_int (k : IntKind) (n : Int) : ∀ u ∈ (#[Value.int k n] : Array Value).toList, u.oneCell' = true := by simp [Value.oneCell']
theorem oneCell_string (s : ByteArray) : ∀ u ∈ (#[Value.string s] : Array Value).toList, u.oneCell' = true := by simp [Value.oneCell']

theorem below_grown {B : Nat} {a w w' : World} {e : TypeId} {size n : Nat} {v : Value} {xs : List Value} (hb : Below B a w) (hB : B ≤ w.heap.size)
    (hown : w.ownsRow B e size v n xs) (hg : w.grownBy w' v.ownBlock) : Below B a w' := by
  refine hb.grown hg hB ?_
  intro k hk
  obtain ⟨_, hv | ⟨g, cap, cur, hv, hg', _⟩⟩ := hown
  · rw [hv.1] at hk; simp [Value.ownBlock] at hk
  · rw [hv] at hk; simp [Value.ownBlock] at hk; omega

/-- A cell of an owned row. -/
theorem own_cell {w : World} {base : Nat} {e : TypeId} {n : Nat} {a : Addr} {len cap : Nat} {xs : List Value} (hown : w.ownsRow base e 1 (.slice (some a) len cap) n xs) {j : Nat} {u : Value} (hj : xs[j]? = some u) :
    w.cell? (a.add j) = some u := by
  obtain ⟨hl, hv | ⟨g, cap', cur, hv, hg', hheap, h4, h5, h6, h7⟩⟩ := hown
  · simp at hv
  · simp at hv
    obtain ⟨rfl, rfl, rfl⟩ := hv
    have hadd : (⟨g, 0, none⟩ : Addr).add j = ⟨g, j, none⟩ := by unfold Addr.add; split <;> simp_all
    rw [hadd]
    simp only [World.cell?, hheap]
    rw [← h7] at hj
    have hj' : j < len * 1 := by
      have := (List.getElem?_eq_some_iff.1 hj).1
      simp at this; omega
    rw [List.getElem?_take, if_pos hj'] at hj
    simpa using hj

/-- string(v), v the call's own row of bytes. -/
theorem run_convert_own {P : Program} {w : World} {base : Nat} {v : Value} {n : Nat} {l : List UInt8} (src dst e : TypeId) (hs : P.underlying src = some (.slice e)) (he : P.underlying e = some (.int .u8)) (hd : P.underlying dst = some .string)
    (hown : w.ownsRow base e 1 v n (bytesV l)) : (convert src dst v).run P w = .ok (.string ⟨l.toArray⟩) w := by
  have hlen := hown.1
  simp [bytesV_len] at hlen
  have hc := fun (a : Addr) (len cap : Nat) (h : w.ownsRow base e 1 (.slice (some a) len cap) n (bytesV l)) (j : Nat) (hj : j < l.length) =>
    own_cell (j := j) (u := .int .u8 (l[j].toNat : Int)) h (by simp [bytesV, List.getElem?_eq_getElem hj])
  rcases hown.2 with hv | ⟨g, cap, cur, hv, _⟩
  · obtain ⟨rfl, rfl⟩ := hv
    have : l = [] := List.length_eq_zero_iff.1 hlen
    subst this
    exact run_convert_bytes_nil w src e hs he 0 0 dst hd
  · subst hv
    subst hlen
    exact run_convert_bytes_back w src dst e ⟨g, 0, none⟩ cap l hs he hd (fun j hj => hc _ _ _ hown j hj)

/-- []byte(s): a new row with s's bytes. -/
theorem bytes_of_string {P : Program} (w : World) (src dst e : TypeId) (s : ByteArray) (hs : P.underlying src = some .string) (hd : P.underlying dst = some (.slice e)) (he : P.underlying e = some (.int .u8)) :
    ∃ cap w1, (convert src dst (.string s)).run P w = .ok (.slice (some ⟨w.heap.size, 0, none⟩) s.size cap) w1 ∧ Below w.heap.size w w1 ∧ w1.heap.size = w.heap.size + 1 ∧
      ∀ j (hj : j < s.size), w1.cell? ⟨w.heap.size, j, none⟩ = some (.int .u8 (s[j].toNat : Int)) := by
  refine ⟨_, _, run_bytes_of_string w src dst e s hs hd he, ((Below.refl _ w).drew).alloc (Nat.le_refl _) _, by simp, ?_⟩
  intro j hj
  have h := bytesRow_at s (grownCap w s.size 0 e) j hj
  have hh : ∀ (C : Array Value) (m : Nat × Nat), (w.drew.alloc (.cells C e m)).cell? ⟨w.heap.size, j, none⟩ = C[j]? := by
    intro C m
    have : (w.drew.alloc (.cells C e m)).heap[w.heap.size]? = some (.cells C e m) := by
      show (w.heap.push (.cells C e m))[w.heap.size]? = _
      simp
    unfold World.cell?
    simp only [this]
    rfl
  rw [hh, h]
  rfl

theorem ba_take (s : ByteArray) (k : Nat) (h : k < s.size) : s.data.toList.take (k + 1) = s.data.toList.take k ++ [s[k]] := by
  rw [List.take_succ_eq_append_getElem (by simpa using h)]; rfl
theorem ba_mem (s : ByteArray) (k : Nat) (h : k < s.size) : s[k] ∈ s.data.toList := by
  have : s[k] = s.data.toList[k]'(by simpa using h) := rfl
  rw [this]; exact List.getElem_mem _
theorem ba_all_snoc {p : UInt8 → Bool} (s : ByteArray) (k : Nat) (h : k < s.size) (hp : (s.data.toList.take k).all p = true) (hc : p s[k] = true) : (s.data.toList.take (k + 1)).all p = true := by
  rw [ba_take s k h, List.all_append, hp]; simp [hc]
theorem ba_all_false {p : UInt8 → Bool} (s : ByteArray) (k : Nat) (h : k < s.size) (hc : p s[k] = false) : s.data.toList.all p = false := by
  rw [List.all_eq_false]; exact ⟨s[k], ba_mem s k h, by simp [hc]⟩
theorem ba_take_all (s : ByteArray) : s.data.toList.take s.size = s.data.toList := List.take_of_length_le (by simp)
theorem ba_toList (s : ByteArray) : s.toList = s.data.toList := by
  exact ByteArray.toList_eq s
theorem toList_isEmpty (s : ByteArray) : s.toList.isEmpty = decide (s.size = 0) := by
  rw [ba_toList, Bool.eq_iff_iff]
  simp [← Array.size_eq_zero_iff]
theorem ret_bool {a b : Bool} (h : a = b) : Ending.returned (.bool a) = .returned (.bool b) := by rw [h]
theorem ret_int {k : IntKind} {a b : Int} (h : a = b) : Ending.returned (.int k a) = .returned (.int k b) := by rw [h]
theorem ret_str {a b : ByteArray} (h : a = b) : Ending.returned (.string a) = .returned (.string b) := by rw [h]

end Go.Proofs.YtaoejgnfoecpfaaDoor
namespace Go.Proofs.YtaoejgnfoecpfaaDoor
set_option linter.unusedVariables false
set_option linter.unusedSimpArgs false
set_option linter.unusedSectionVars false
open Go Go.RowKit Go.Sort

/-- a program that bears the stable sort's bodies at these types -/
structure StL (P : Program) (k : Nat) : Prop where
  mixed : P.follows .mixedOrders = true
  fsw : P.funcs[160]? = some Tryd.f160
  csw : ∀ args w, (callFunc 160 args).run P w = .ok (.enter 160 args) w
  frot : P.funcs[158]? = some Tryd.f158
  crot : ∀ args w, (callFunc 158 args).run P w = .ok (.enter 158 args) w
  fsym : P.funcs[152]? = some Tryd.f152
  csym : ∀ args w, (callFunc 152 args).run P w = .ok (.enter 152 args) w
  fins : P.funcs[151]? = some Tryd.f151
  cins : ∀ args w, (callFunc 151 args).run P w = .ok (.enter 151 args) w
  fsta : P.funcs[134]? = some Tryd.f134
  csta : ∀ args w, (callFunc 134 args).run P w = .ok (.enter 134 args) w
  t0 : P.underlying 0 = some (.tuple #[])
  a0 : ∀ w, (isAgg 0).run P w = .ok false w
  z0 : ∀ w, (Go.sizeOf 0).run P w = .ok 1 w
  v0 : ∀ w, (zeroValue 0).run P w = .ok (.tuple #[]) w
  t3 : P.underlying 3 = some (.int .i64)
  a3 : ∀ w, (isAgg 3).run P w = .ok false w
  z3 : ∀ w, (Go.sizeOf 3).run P w = .ok 1 w
  v3 : ∀ w, (zeroValue 3).run P w = .ok (.int .i64 0) w
  t4 : P.underlying 4 = some (.bool)
  a4 : ∀ w, (isAgg 4).run P w = .ok false w
  z4 : ∀ w, (Go.sizeOf 4).run P w = .ok 1 w
  v4 : ∀ w, (zeroValue 4).run P w = .ok (.bool false) w
  tS : P.underlying 49 = some (.slice 59)
  aS : ∀ w, (isAgg 49).run P w = .ok false w
  zS : ∀ w, (Go.sizeOf 49).run P w = .ok 1 w
  vS : ∀ w, (zeroValue 49).run P w = .ok (.slice none 0 0) w
  aE : ∀ w, (isAgg 59).run P w = .ok true w
  zE : ∀ w, (Go.sizeOf 59).run P w = .ok k w
  tC : P.underlying 140 = some (.func #[59, 59] #[3] false)
  aC : ∀ w, (isAgg 140).run P w = .ok false w
  zC : ∀ w, (Go.sizeOf 140).run P w = .ok 1 w
  vC : ∀ w, (zeroValue 140).run P w = .ok (.nilFunc) w
  tU : P.underlying 162 = some (.int .u64)
  aU : ∀ w, (isAgg 162).run P w = .ok false w
  zU : ∀ w, (Go.sizeOf 162).run P w = .ok 1 w
  vU : ∀ w, (zeroValue 162).run P w = .ok (.int .u64 0) w
theorem stl : StL Tryd.prog 5 where
  mixed := by kernel_rfl
  fsw := Tryd.func160
  csw := fun _ _ => by kernel_rfl
  frot := Tryd.func158
  crot := fun _ _ => by kernel_rfl
  fsym := Tryd.func152
  csym := fun _ _ => by kernel_rfl
  fins := Tryd.func151
  cins := fun _ _ => by kernel_rfl
  fsta := Tryd.func134
  csta := fun _ _ => by kernel_rfl
  t0 := Tryd.underlying0
  a0 := Tryd.isAgg0
  z0 := Tryd.sizeOf0
  v0 := Tryd.zeroValue0
  t3 := Tryd.underlying3
  a3 := Tryd.isAgg3
  z3 := Tryd.sizeOf3
  v3 := Tryd.zeroValue3
  t4 := Tryd.underlying4
  a4 := Tryd.isAgg4
  z4 := Tryd.sizeOf4
  v4 := Tryd.zeroValue4
  tS := Tryd.underlying49
  aS := Tryd.isAgg49
  zS := Tryd.sizeOf49
  vS := Tryd.zeroValue49
  aE := Tryd.isAgg59
  zE := Tryd.sizeOf59
  tC := Tryd.underlying140
  aC := Tryd.isAgg140
  zC := Tryd.sizeOf140
  vC := Tryd.zeroValue140
  tU := Tryd.underlying162
  aU := Tryd.isAgg162
  zU := Tryd.sizeOf162
  vU := Tryd.zeroValue162
section
variable {P : Program} {α : Type} [Inhabited α]
set_option maxHeartbeats 4000000 in
set_option maxRecDepth 1000000 in
/-- places of a row exchanged -/
theorem swapr_open {k : Nat} (L : StL P k) (enc : α → List Value) (hk : ∀ x, (enc x).length = k) (h1 : ∀ x, ∀ v ∈ enc x, v.oneCell' = true) (a b n cap blk off : Nat) (fv : Value) (d : Array α) (w : World) (hH : HoldsK enc k w blk off d) (hblk : blk < w.heap.size) (hab : a + n ≤ b) (hb : b + n ≤ d.size) (hsz : d.size < 4611686018427387904) :
    Calls P 160 #[.slice (some ⟨blk, off, none⟩) d.size cap, .int .i64 a, .int .i64 b, .int .i64 n, fv] w fun e w' => e = .returned (.tuple #[]) ∧ ∃ q, w' = sortWorldK enc k w blk off q (swpR a b n d) #[] := by
  have mixed := L.mixed; have t0 := L.t0; have a0 := L.a0; have z0 := L.z0; have v0 := L.v0; have t3 := L.t3; have a3 := L.a3; have z3 := L.z3; have v3 := L.v3; have t4 := L.t4; have a4 := L.a4; have z4 := L.z4; have v4 := L.v4; have tS := L.tS; have aS := L.aS; have zS := L.zS; have vS := L.vS; have aE := L.aE; have zE := L.zE; have tC := L.tC; have aC := L.aC; have zC := L.zC; have vC := L.vC; have tU := L.tU; have aU := L.aU; have zU := L.zU; have vU := L.vU
  have uS := run_underlying L.tS
  have HST := Lib.hid (show w = sortWorldK enc k w blk off 0 d #[] by unfold sortWorldK; rw [grow_empty]; exact (putRowK_self enc k w blk off d hH).symm)
  have HH := Lib.hid hH
  have HK := Lib.hid hk
  have H1 := Lib.hid h1
  clear hH hk h1
  go_enter L.fsw, Tryd.ntmps160
  go_wp2
  go_loopg [10] n (fun g1 vi wr => ∃ (i q : Nat), vi = .int .i64 i ∧ i ≤ n ∧ n - i ≤ g1 ∧ wr = sortWorldK enc k w blk off q (swpR a b i d) #[])
  case atStart => exact ⟨0, 0, rfl, Nat.zero_le _, by omega, HST.out⟩
  case round =>
    obtain ⟨i, q, rfl, hi, hg1, rfl⟩ := hrel
    by_cases hin : i < n
    · have hinz : (i : Int) < (n : Int) := by omega
      have hs := swpR_size a b i d
      have hw0 := sortWorldK_swp_c enc k w blk off HK.out q (swpR a b i d) #[] hblk (a + i) (b + i) (by omega) (by omega)
      have hHd : HoldsK enc k (sortWorldK enc k w blk off q (swpR a b i d) #[]).drew blk off (swpR a b i d) := holdsK_sortWorldK_c enc k w blk off d _ q #[] HH.out hblk hs
      have hrec : swpR a b (i + 1) d = swp (swpR a b i d) (a + i) (b + i) := rfl
      generalize swpR a b i d = dk at *
      generalize sortWorldK enc k w blk off q dk #[] = wq at *
      obtain ⟨xa, hxa⟩ : ∃ x, dk[a + i]! = x := ⟨_, rfl⟩
      obtain ⟨xb, hxb⟩ : ∃ x, dk[b + i]! = x := ⟨_, rfl⟩
      rw [hxa, hxb] at hw0
      have bnd : ∀ x, x < dk.size → x * k + k ≤ dk.size * k := fun x hx => by
        have := Nat.mul_le_mul_right k (show x + 1 ≤ dk.size from hx); rwa [Nat.add_mul, Nat.one_mul] at this
      have la : Sem.run P (loadCellsFrom ⟨blk, off + (a + i) * k, none⟩ 0 k #[]) wq.drew = .ok (enc xa).toArray wq.drew := by rw [← hxa]; exact run_loadCellsFrom_list _ _ _ _ k (HK.out _) (HoldsK.cells hHd HK.out (by omega))
      have lb : Sem.run P (loadCellsFrom ⟨blk, off + (b + i) * k, none⟩ 0 k #[]) wq.drew = .ok (enc xb).toArray wq.drew := by rw [← hxb]; exact run_loadCellsFrom_list _ _ _ _ k (HK.out _) (HoldsK.cells hHd HK.out (by omega))
      have s1 : Sem.run P (storeCells ⟨blk, off + (a + i) * k, none⟩ (enc xb) 0) wq.drew = .ok () (wq.drew.setCells blk (off + (a + i) * k) (enc xb)) := stores_of_holds _ hHd ((a + i) * k) _ (by rw [HK.out, size_flatK]; exact bnd _ (by omega)) (H1.out _)
      have s2 : Sem.run P (storeCells ⟨blk, off + (b + i) * k, none⟩ (enc xa) 0) (wq.drew.setCells blk (off + (a + i) * k) (enc xb)) = .ok () ((wq.drew.setCells blk (off + (a + i) * k) (enc xb)).setCells blk (off + (b + i) * k) (enc xa)) :=
        stores_of_holds _ (holds_setCells_c hHd ((a + i) * k) _ (by rw [HK.out, size_flatK]; exact bnd _ (by omega))) ((b + i) * k) _ (by rw [HK.out, size_setMany, size_flatK]; exact bnd _ (by omega)) (H1.out _)
      have HW := Lib.hid hw0
      have HREC := Lib.hid hrec
      have hla : (enc xa).length = k := HK.out _
      have hlb : (enc xb).length = k := HK.out _
      clear hw0 hHd hrec bnd hxa hxb
      generalize enc xa = ca at *
      generalize enc xb = cb at *
      have ja : (a : Int) + (i : Int) < (d.size : Int) := by omega
      have jb : (b : Int) + (i : Int) < (d.size : Int) := by omega
      have ja0 : (0 : Int) ≤ (a : Int) + (i : Int) := by omega
      have jb0 : (0 : Int) ≤ (b : Int) + (i : Int) := by omega
      have ea : ((a : Int) + (i : Int)).toNat = a + i := by omega
      have eb : ((b : Int) + (i : Int)).toNat = b + i := by omega
      have wa : IntKind.i64.wrap ((a : Int) + (i : Int)) = (a : Int) + (i : Int) := by rw [IntKind.wrap_i64]; omega
      have wb : IntKind.i64.wrap ((b : Int) + (i : Int)) = (b : Int) + (i : Int) := by rw [IntKind.wrap_i64]; omega
      go_wp2_with fail
      go_big_region_o
      all_goals go_wp2
      go_roundg (n - (i + 1))
      case measure => omega
      case rel => exact ⟨i + 1, q + 1, by go_num, by omega, Nat.le_refl _, by rw [HREC.out]; exact HW.out⟩
    · have hinz : ¬ (i : Int) < (n : Int) := by omega
      obtain rfl : i = n := by omega
      go_wp2
      go_end0
      exact ⟨rfl, q, rfl⟩
end
end Go.Proofs.YtaoejgnfoecpfaaDoor
namespace Go.Proofs.YtaoejgnfoecpfaaDoor
set_option linter.unusedVariables false
set_option linter.unusedSimpArgs false
set_option linter.unusedSectionVars false
open Go Go.RowKit Go.Sort

section
variable {P : Program} {α : Type} [Inhabited α]
theorem sortW_on (enc : α → List Value) (k : Nat) (w : World) (blk off n m : Nat) (dk dk' : Array α) (os os' : Array Obj) (hblk : blk < w.heap.size) (h : dk'.size = dk.size) :
    sortWorldK enc k (sortWorldK enc k w blk off n dk os) blk off m dk' os' = sortWorldK enc k w blk off (n + m) dk' (os ++ os') := by
  unfold sortWorldK
  exact grow_step_growK enc k w os os' n m blk off dk dk' hblk h
set_option maxHeartbeats 4000000 in
set_option maxRecDepth 1000000 in
/-- a row turned -/
theorem rot_open {k : Nat} (L : StL P k) (enc : α → List Value) (hk : ∀ x, (enc x).length = k) (h1 : ∀ x, ∀ v ∈ enc x, v.oneCell' = true) (a m b cap blk off : Nat) (fv : Value) (d : Array α) (w : World) (hH : HoldsK enc k w blk off d) (hblk : blk < w.heap.size) (ham : a < m) (hmb : m < b) (hb : b ≤ d.size) (hsz : d.size < 4611686018427387904) :
    Calls P 158 #[.slice (some ⟨blk, off, none⟩) d.size cap, .int .i64 a, .int .i64 m, .int .i64 b, fv] w fun e w' => e = .returned (.tuple #[]) ∧ ∃ q, w' = sortWorldK enc k w blk off q (rotL m (m - a) (b - m) d) #[] := by
  have csw := L.csw
  have mixed := L.mixed; have t0 := L.t0; have a0 := L.a0; have z0 := L.z0; have v0 := L.v0; have t3 := L.t3; have a3 := L.a3; have z3 := L.z3; have v3 := L.v3; have t4 := L.t4; have a4 := L.a4; have z4 := L.z4; have v4 := L.v4; have tS := L.tS; have aS := L.aS; have zS := L.zS; have vS := L.vS; have aE := L.aE; have zE := L.zE; have tC := L.tC; have aC := L.aC; have zC := L.zC; have vC := L.vC; have tU := L.tU; have aU := L.aU; have zU := L.zU; have vU := L.vU
  have HST := Lib.hid (show w = sortWorldK enc k w blk off 0 d #[] by unfold sortWorldK; rw [grow_empty]; exact (putRowK_self enc k w blk off d hH).symm)
  have HSW := Lib.hid fun (x y n : Nat) (dk : Array α) (q : Nat) (hs : dk.size = d.size) (hxy : x + n ≤ y) (hy : y + n ≤ d.size) => (by
    have h := swapr_open L enc hk h1 x y n cap blk off fv dk (sortWorldK enc k w blk off q dk #[]) (holdsK_sortWorldK_c enc k w blk off d dk q #[] hH hblk hs) (Nat.lt_of_lt_of_le hblk (size_sortWorldK_c enc k w blk off q dk #[])) hxy (by omega) (by omega)
    rw [hs] at h
    refine h.mono fun e w' ⟨e1, q', e2⟩ => ⟨e1, q + q', ?_⟩
    rw [e2, sortW_on enc k w blk off q q' dk _ #[] #[] hblk (swpR_size _ _ _ _)]
    rfl : Calls P 160 #[.slice (some ⟨blk, off, none⟩) d.size cap, .int .i64 x, .int .i64 y, .int .i64 n, fv] (sortWorldK enc k w blk off q dk #[]) fun e w' => e = .returned (.tuple #[]) ∧ ∃ q, w' = sortWorldK enc k w blk off q (swpR x y n dk) #[])
  have HLe := Lib.hid L
  clear hH hk h1 L
  have e1 : IntKind.i64.wrap ((m : Int) - (a : Int)) = ((m - a : Nat) : Int) := by rw [IntKind.wrap_i64]; omega
  have e2 : IntKind.i64.wrap ((b : Int) - (m : Int)) = ((b - m : Nat) : Int) := by rw [IntKind.wrap_i64]; omega
  have hj0 : 0 < b - m := by omega
  have hi0 : 0 < m - a := by omega
  have him : m - a ≤ m := by omega
  have hmj : m + (b - m) ≤ d.size := by omega
  generalize m - a = i0 at *
  generalize b - m = j0 at *
  go_enter HLe.out.frot, Tryd.ntmps158
  go_wp2
  go_loopg [10, 11] (i0 + j0) (fun g vi vj wr => ∃ (i j q : Nat) (dk : Array α), vi = .int .i64 i ∧ vj = .int .i64 j ∧ 0 < i ∧ 0 < j ∧ i ≤ m ∧ m + j ≤ d.size ∧ i + j ≤ g ∧ dk.size = d.size ∧ wr = sortWorldK enc k w blk off q dk #[] ∧ rotL m i j dk = rotL m i0 j0 d)
  case atStart => exact ⟨i0, j0, 0, d, rfl, rfl, hi0, hj0, him, hmj, Nat.le_refl _, rfl, HST.out, rfl⟩
  case round =>
    obtain ⟨i, j, q, dk, rfl, rfl, hi, hj, hm1, hm2, hg1, hs, rfl, hrot⟩ := hrel
    have HR := Lib.hid hrot
    clear hrot e1 e2 him hmj hj0 hi0
    have e1 : IntKind.i64.wrap ((m : Int) - (i : Int)) = ((m - i : Nat) : Int) := by rw [IntKind.wrap_i64]; omega
    by_cases hij : i = j
    · subst hij
      have hb0 : ((i : Int) != (i : Int)) = false := by simp
      have HC := Lib.hid (HSW.out (m - i) m i dk q hs (by omega) (by omega))
      have HX := Lib.hid (rotL_same (m := m) hi dk)
      generalize m - i = mi at *
      go_wp2_with fail
      refine HC.out.mono ?_
      rintro e w1 ⟨rfl, q1, rfl⟩
      go_wp2
      go_end0
      exact ⟨rfl, q1, by rw [← HR.out, HX.out]⟩
    · have hb0 : ((i : Int) != (j : Int)) = true := by rw [bne_iff_ne]; omega
      by_cases hji : j < i
      · have hjz : (j : Int) < (i : Int) := by omega
        have HC := Lib.hid (HSW.out (m - i) m j dk q hs (by omega) (by omega))
        have HX := Lib.hid (rotL_more (m := m) hj hji dk)
        have e2 : IntKind.i64.wrap ((i : Int) - (j : Int)) = ((i - j : Nat) : Int) := by rw [IntKind.wrap_i64]; omega
        have k1 : 0 < i - j := by omega
        have k2 : i - j ≤ m := by omega
        have k3 : i - j + j < gk := by omega
        generalize m - i = mi at *
        generalize i - j = ij at *
        go_wp2_with fail
        refine HC.out.mono ?_
        rintro e w1 ⟨rfl, q1, rfl⟩
        go_wp2
        go_roundg (ij + j)
        case measure => exact k3
        case rel => exact ⟨ij, j, q1, _, rfl, rfl, k1, hj, k2, hm2, Nat.le_refl _, (swpR_size _ _ _ _).trans hs, rfl, by rw [← HR.out, HX.out]⟩
      · have hjz : ¬ (j : Int) < (i : Int) := by omega
        have HC := Lib.hid (HSW.out (m - i) (m + j - i) i dk q hs (by omega) (by omega))
        have HX := Lib.hid (rotL_less (m := m) hi (show i < j by omega) dk)
        have e2 : IntKind.i64.wrap ((j : Int) - (i : Int)) = ((j - i : Nat) : Int) := by rw [IntKind.wrap_i64]; omega
        have e3 : IntKind.i64.wrap ((m : Int) + (j : Int)) = (m : Int) + (j : Int) := by rw [IntKind.wrap_i64]; omega
        have e4 : IntKind.i64.wrap ((m : Int) + (j : Int) - (i : Int)) = ((m + j - i : Nat) : Int) := by rw [IntKind.wrap_i64]; omega
        have k1 : 0 < j - i := by omega
        have k2 : m + (j - i) ≤ d.size := by omega
        have k3 : i + (j - i) < gk := by omega
        generalize m - i = mi at *
        generalize m + j - i = mj at *
        generalize j - i = ji at *
        go_wp2_with fail
        refine HC.out.mono ?_
        rintro e w1 ⟨rfl, q1, rfl⟩
        go_wp2
        go_roundg (i + ji)
        case measure => exact k3
        case rel => exact ⟨i, ji, q1, _, rfl, rfl, hi, k1, hm1, k2, Nat.le_refl _, (swpR_size _ _ _ _).trans hs, rfl, by rw [← HR.out, HX.out]⟩
end
end Go.Proofs.YtaoejgnfoecpfaaDoor
namespace Go.Proofs.YtaoejgnfoecpfaaDoor
set_option linter.unusedVariables false
set_option linter.unusedSimpArgs false
set_option linter.unusedSectionVars false
open Go Go.RowKit Go.Sort

section
variable {P : Program} {α : Type} [Inhabited α]
/-- a world of the sort's, the row holding dk -/
def SWm (enc : α → List Value) (k : Nat) (w : World) (blk off : Nat) (dk : Array α) (W : World) : Prop := ∃ q os, W = sortWorldK enc k w blk off q dk os
/-- what a walk of the sort's stands on -/
structure Base (P : Program) (enc : α → List Value) (k : Nat) (cf : α → α → Int) (g : Nat) (cb : Array Value) (blk off size : Nat) (w : World) : Prop where
  L : StL P k
  hk : ∀ x, (enc x).length = k
  h1 : ∀ x, ∀ v ∈ enc x, v.oneCell' = true
  hS : SWO (ltOf cf)
  eg : ∀ args w, (callFunc g args).run P w = .ok (.enter g args) w
  hcmp : CmpLays P g cb enc k cf blk off size w
  hblk : blk < w.heap.size
  hsz : size < 4611686018427387904
  hH : ∃ d, d.size = size ∧ HoldsK enc k w blk off d
section
variable {enc : α → List Value} {k : Nat} {cf : α → α → Int} {g : Nat} {cb : Array Value} {blk off size : Nat} {w W : World} {dk : Array α}
theorem SWm.grown (h : SWm enc k w blk off dk W) (n : Nat) (os : Array Obj) : SWm enc k w blk off dk (grow (W.drewN n) os) := by
  obtain ⟨q, os0, rfl⟩ := h
  exact ⟨q + n, os0 ++ os, sortWorldK_grown_c enc k w blk off q n dk os0 os⟩
theorem Base.holds (B : Base P enc k cf g cb blk off size w) (h : SWm enc k w blk off dk W) (hs : dk.size = size) : HoldsK enc k W blk off dk := by
  obtain ⟨q, os0, rfl⟩ := h
  obtain ⟨d, hd, hH⟩ := B.hH
  exact holdsK_sortWorldK_c enc k w blk off d dk q os0 hH B.hblk (by omega)
theorem Base.load (B : Base P enc k cf g cb blk off size w) (h : SWm enc k w blk off dk W) (hs : dk.size = size) {x : Nat} (hx : x < size) (n : Nat) (os : Array Obj) :
    Sem.run P (loadCellsFrom ⟨blk, off + x * k, none⟩ 0 k #[]) (grow (W.drewN n) os) = .ok (enc dk[x]!).toArray (grow (W.drewN n) os) :=
  run_loadCellsFrom_list P _ _ _ k (B.hk _) (HoldsK.cells (B.holds (h.grown n os) hs) B.hk (by omega))
theorem Base.cmp (B : Base P enc k cf g cb blk off size w) (h : SWm enc k w blk off dk W) (hs : dk.size = size) (x y : α) (n : Nat) (os : Array Obj) :
    Calls P g (#[.agg (enc x).toArray, .agg (enc y).toArray] ++ cb) (grow (W.drewN n) os) fun e w' => e = .returned (.int .i64 (cf x y)) ∧ ∃ q os'', w' = grow ((grow (W.drewN n) os).drewN q) os'' := by
  obtain ⟨q, os0, e⟩ := h.grown n os
  rw [e]
  exact B.hcmp q os0 dk hs x y
theorem Base.lt (B : Base P enc k cf g cb blk off size w) (h : SWm enc k w blk off dk W) : blk < W.heap.size := by
  obtain ⟨q, os0, rfl⟩ := h
  exact Nat.lt_of_lt_of_le B.hblk (size_sortWorldK_c enc k w blk off q dk os0)
theorem Base.on (B : Base P enc k cf g cb blk off size w) (h : SWm enc k w blk off dk W) {d2 : Array α} (hs : d2.size = dk.size) {W2 : World} (h2 : SWm enc k W blk off d2 W2) : SWm enc k w blk off d2 W2 := by
  obtain ⟨q, os0, rfl⟩ := h
  obtain ⟨q2, os2, rfl⟩ := h2
  exact ⟨_, _, sortW_on enc k w blk off q q2 dk d2 os0 os2 B.hblk hs⟩
/-- what a merge leaves -/
def SymPost (enc : α → List Value) (k : Nat) (cf : α → α → Int) (w : World) (blk off a b : Nat) (d : Array α) (e : Ending) (w' : World) : Prop :=
  e = .returned (.tuple #[]) ∧ ∃ d', SWm enc k w blk off d' w' ∧ PermIn a b d d' ∧ SortedIn (ltOf cf) a b d'
end
set_option maxHeartbeats 8000000 in
set_option maxRecDepth 1000000 in
theorem sym_left {k : Nat} {enc : α → List Value} {cf : α → α → Int} {g : Nat} {cb : Array Value} {blk off cap a b : Nat} {d : Array α} {w : World} (B : Base P enc k cf g cb blk off d.size w) (hw : HoldsK enc k w blk off d) (hab : a + 1 < b) (hb : b ≤ d.size)
    (hs : SortedIn (ltOf cf) (a + 1) b d) :
    Calls P 152 #[.slice (some ⟨blk, off, none⟩) d.size cap, .int .i64 a, .int .i64 (a + 1 : Nat), .int .i64 b, .func (.func g) #[] cb] w (SymPost enc k cf w blk off a b d) := by
  have L := B.L
  have eg := B.eg
  have mixed := L.mixed; have t0 := L.t0; have a0 := L.a0; have z0 := L.z0; have v0 := L.v0; have t3 := L.t3; have a3 := L.a3; have z3 := L.z3; have v3 := L.v3; have t4 := L.t4; have a4 := L.a4; have z4 := L.z4; have v4 := L.v4; have tS := L.tS; have aS := L.aS; have zS := L.zS; have vS := L.vS; have aE := L.aE; have zE := L.zE; have tC := L.tC; have aC := L.aC; have zC := L.zC; have vC := L.vC; have tU := L.tU; have aU := L.aU; have zU := L.zU; have vU := L.vU
  have uS := run_underlying L.tS
  have BB := Lib.hid B
  have HST := Lib.hid (show SWm enc k w blk off d w from ⟨0, #[], by unfold sortWorldK; rw [grow_empty]; exact (putRowK_self enc k w blk off d hw).symm⟩)
  have HS := Lib.hid hs
  have hsz := B.hsz
  clear B hw hs
  have HLe := Lib.hid L
  clear L
  have e1 : IntKind.i64.wrap (((a + 1 : Nat) : Int) - (a : Int)) = 1 := by rw [IntKind.wrap_i64]; omega
  obtain ⟨m, hm⟩ : ∃ m, m = a + 1 := ⟨_, rfl⟩
  rw [← hm] at e1 HS ⊢
  have HM := Lib.hid hm
  have hm1 : a + 1 ≤ m := by omega
  have hm2 : m ≤ a + 1 := by omega
  clear hm
  go_enter HLe.out.fsym, Tryd.ntmps152
  go_wp2
  go_loopg [10, 11] (b - m) (fun g1 vi vj wr => ∃ (i j : Nat), vi = .int .i64 i ∧ vj = .int .i64 j ∧ m ≤ i ∧ i ≤ j ∧ j ≤ b ∧ j - i ≤ g1 ∧ Hid (SWm enc k w blk off d wr) ∧ Hid ((i = m ∨ ltOf cf d[i - 1]! d[a]! = true) ∧ (j = b ∨ ltOf cf d[j]! d[a]! = false)))
  case atStart => exact ⟨m, b, rfl, rfl, Nat.le_refl _, by omega, Nat.le_refl _, Nat.le_refl _, HST, Lib.hid ⟨.inl rfl, .inl rfl⟩⟩
  case round =>
    clear HST
    obtain ⟨i, j, rfl, rfl, hmi, hij, hjb, hg1, SW, IV⟩ := hrel
    by_cases hlt : i < j
    · have hz : (i : Int) < (j : Int) := by omega
      have wz : IntKind.i64.wrap ((i : Int) + (j : Int)) = (i : Int) + (j : Int) := by rw [IntKind.wrap_i64]; omega
      have hh : ((i : Int) + (j : Int)) / 2 = (((i + j) / 2 : Nat) : Int) := by omega
      obtain ⟨h, hhd⟩ : ∃ h, (i + j) / 2 = h := ⟨_, rfl⟩
      have hb1 : i ≤ h ∧ h < j := by omega
      rw [hhd] at hh
      have lh := BB.out.load SW.out rfl (x := h) (by omega)
      have la := BB.out.load SW.out rfl (x := a) (by omega)
      have hcg := BB.out.cmp SW.out rfl d[h]! d[a]!
      have jh : (h : Int) < (d.size : Int) := by omega
      have ja : (a : Int) < (d.size : Int) := by omega
      obtain ⟨xh, hxh⟩ : ∃ x, d[h]! = x := ⟨_, rfl⟩
      obtain ⟨xa, hxa⟩ : ∃ x, d[a]! = x := ⟨_, rfl⟩
      rw [hxh] at lh hcg
      rw [hxa] at la hcg
      have XX := Lib.hid (And.intro hxh hxa)
      clear hxh hxa
      by_cases hlv : cf xh xa < 0
      · go_wp2_with fail
        go_quiet_grown (first | (go_at_fn g; refine Calls.grown_of (hcg _ _)))
        go_wp2
        go_roundg (j - (h + 1))
        case measure => omega
        case rel => exact ⟨h + 1, j, by go_num, rfl, by omega, by omega, hjb, Nat.le_refl _, Lib.hid (SW.out.grown nq osq), Lib.hid ⟨.inr (by rw [Nat.add_sub_cancel, XX.out.1, XX.out.2]; exact decide_eq_true hlv), IV.out.2⟩⟩
      · go_wp2_with fail
        go_quiet_grown (first | (go_at_fn g; refine Calls.grown_of (hcg _ _)))
        go_wp2
        go_roundg (h - i)
        case measure => omega
        case rel => exact ⟨i, h, rfl, by go_num, hmi, by omega, by omega, Nat.le_refl _, Lib.hid (SW.out.grown nq osq), Lib.hid ⟨IV.out.1, .inr (by rw [XX.out.1, XX.out.2]; exact decide_eq_false (by omega))⟩⟩
    · obtain rfl : i = j := by omega
      have hz : ¬ (i : Int) < (i : Int) := by omega
      have e2 : IntKind.i64.wrap ((i : Int) - 1) = ((i - 1 : Nat) : Int) := by rw [IntKind.wrap_i64]; omega
      obtain ⟨t, ht⟩ : ∃ t, i = a + 1 + t := ⟨i - (a + 1), by omega⟩
      have ht1 : i - 1 = a + t := by omega
      rw [ht1] at e2
      have HT := Lib.hid ht
      have ht2 : a + 1 + t ≤ i := by omega
      have ht3 : i ≤ a + 1 + t := by omega
      clear ht ht1
      go_wp2
      go_loopg [13] t (fun g1 vk wr => ∃ (s : Nat) (dk : Array α), vk = .int .i64 (a + s : Nat) ∧ s ≤ t ∧ t - s ≤ g1 ∧ Hid (SWm enc k w blk off dk wr) ∧ Hid (Rot a (a + 1) (a + 1 + s) d dk))
      case atStart => exact ⟨0, d, rfl, Nat.zero_le _, Nat.le_refl _, SW, Lib.hid (Rot.end_ a (a + 1) d)⟩
      case round =>
        obtain ⟨s, dk, rfl, hst, hg2, SW2, RR⟩ := hrel
        by_cases hs2 : s < t
        · have hz2 : ((a + s : Nat) : Int) < ((a + t : Nat) : Int) := by omega
          have hsk : dk.size = d.size := RR.out.size
          have hh2 := rot_up RR.out (by omega)
          have hHd : HoldsK enc k (grow (wr.drewN 1) #[]) blk off dk := BB.out.holds (SW2.out.grown 1 #[]) hsk
          rw [grow_empty] at hHd
          have hw0 : SWm enc k w blk off (swp dk (a + s) (a + s + 1)) ((wr.drew.setCells blk (off + (a + s) * k) (enc dk[a + s + 1]!)).setCells blk (off + (a + s + 1) * k) (enc dk[a + s]!)) := by
            obtain ⟨q, os0, rfl⟩ := SW2.out
            exact ⟨q + 1, os0, sortWorldK_swp_c enc k w blk off BB.out.hk q dk os0 BB.out.hblk (a + s) (a + s + 1) (by omega) (by omega)⟩
          have bnd : ∀ x, x < dk.size → x * k + k ≤ dk.size * k := fun x hx => by
            have := Nat.mul_le_mul_right k (show x + 1 ≤ dk.size from hx); rwa [Nat.add_mul, Nat.one_mul] at this
          obtain ⟨p, hp⟩ : ∃ p, a + s = p := ⟨_, rfl⟩
          rw [hp] at hw0 hh2 hz2 ⊢
          have hpt : p < a + t := by omega
          have la : Sem.run P (loadCellsFrom ⟨blk, off + p * k, none⟩ 0 k #[]) wr.drew = .ok (enc dk[p]!).toArray wr.drew := run_loadCellsFrom_list _ _ _ _ k (BB.out.hk _) (HoldsK.cells hHd BB.out.hk (by omega))
          have lb : Sem.run P (loadCellsFrom ⟨blk, off + (p + 1) * k, none⟩ 0 k #[]) wr.drew = .ok (enc dk[p + 1]!).toArray wr.drew := run_loadCellsFrom_list _ _ _ _ k (BB.out.hk _) (HoldsK.cells hHd BB.out.hk (by omega))
          have s1 : Sem.run P (storeCells ⟨blk, off + p * k, none⟩ (enc dk[p + 1]!) 0) wr.drew = .ok () (wr.drew.setCells blk (off + p * k) (enc dk[p + 1]!)) := stores_of_holds _ hHd (p * k) _ (by rw [BB.out.hk, size_flatK]; exact bnd _ (by omega)) (BB.out.h1 _)
          have s2 : Sem.run P (storeCells ⟨blk, off + (p + 1) * k, none⟩ (enc dk[p]!) 0) (wr.drew.setCells blk (off + p * k) (enc dk[p + 1]!)) = .ok () ((wr.drew.setCells blk (off + p * k) (enc dk[p + 1]!)).setCells blk (off + (p + 1) * k) (enc dk[p]!)) :=
            stores_of_holds _ (holds_setCells_c hHd (p * k) _ (by rw [BB.out.hk, size_flatK]; exact bnd _ (by omega))) ((p + 1) * k) _ (by rw [BB.out.hk, size_setMany, size_flatK]; exact bnd _ (by omega)) (BB.out.h1 _)
          have hla : (enc dk[p]!).length = k := BB.out.hk _
          have hlb : (enc dk[p + 1]!).length = k := BB.out.hk _
          have HW := Lib.hid hw0
          have HR := Lib.hid hh2
          clear hw0 hh2 hHd bnd
          generalize enc dk[p]! = ca at *
          generalize enc dk[p + 1]! = cb2 at *
          have j0 : (p : Int) < (d.size : Int) := by omega
          have j1 : (p : Int) + 1 < (d.size : Int) := by omega
          have p0 : (0 : Int) ≤ (p : Int) + 1 := by omega
          have e0 : ((p : Int) + 1).toNat = p + 1 := by omega
          have w1 : IntKind.i64.wrap ((p : Int) + 1) = (p : Int) + 1 := by rw [IntKind.wrap_i64]; omega
          go_wp2_with fail
          go_big_region_o
          all_goals go_wp2
          go_roundg (t - (s + 1))
          case measure => omega
          case rel => exact ⟨s + 1, _, by subst hp; go_num, by omega, Nat.le_refl _, HW, HR⟩
        · obtain rfl : s = t := by omega
          have hz2 : ¬ ((a + s : Nat) : Int) < ((a + s : Nat) : Int) := by omega
          go_wp2
          go_end0
          refine ⟨rfl, dk, SW2.out, ?_, ?_⟩
          · have h1 := RR.out.perm (by omega) (by omega) (by omega)
            exact permIn_mono _ _ _ _ _ _ (Nat.le_refl _) (by omega) hb h1
          · have h2 := HT.out
            have hm := HM.out
            exact ins_left BB.out.hS (i := a + 1 + s) (by omega) (by omega) (by rw [← hm]; exact HS.out) RR.out (by rw [← h2, ← hm]; exact IV.out.1) (by rw [← h2]; exact IV.out.2)
end
end Go.Proofs.YtaoejgnfoecpfaaDoor
namespace Go.Proofs.YtaoejgnfoecpfaaDoor
set_option linter.unusedVariables false
set_option linter.unusedSimpArgs false
set_option linter.unusedSectionVars false
open Go Go.RowKit Go.Sort

section
variable {P : Program} {α : Type} [Inhabited α]
set_option maxHeartbeats 8000000 in
set_option maxRecDepth 1000000 in
theorem sym_right {k : Nat} {enc : α → List Value} {cf : α → α → Int} {g : Nat} {cb : Array Value} {blk off cap a m : Nat} {d : Array α} {w : World} (B : Base P enc k cf g cb blk off d.size w) (hw : HoldsK enc k w blk off d) (ham : a + 1 < m) (hb : m + 1 ≤ d.size)
    (hs : SortedIn (ltOf cf) a m d) :
    Calls P 152 #[.slice (some ⟨blk, off, none⟩) d.size cap, .int .i64 a, .int .i64 m, .int .i64 (m + 1 : Nat), .func (.func g) #[] cb] w (SymPost enc k cf w blk off a (m + 1) d) := by
  have L := B.L
  have eg := B.eg
  have mixed := L.mixed; have t0 := L.t0; have a0 := L.a0; have z0 := L.z0; have v0 := L.v0; have t3 := L.t3; have a3 := L.a3; have z3 := L.z3; have v3 := L.v3; have t4 := L.t4; have a4 := L.a4; have z4 := L.z4; have v4 := L.v4; have tS := L.tS; have aS := L.aS; have zS := L.zS; have vS := L.vS; have aE := L.aE; have zE := L.zE; have tC := L.tC; have aC := L.aC; have zC := L.zC; have vC := L.vC; have tU := L.tU; have aU := L.aU; have zU := L.zU; have vU := L.vU
  have uS := run_underlying L.tS
  have BB := Lib.hid B
  have HST := Lib.hid (show SWm enc k w blk off d w from ⟨0, #[], by unfold sortWorldK; rw [grow_empty]; exact (putRowK_self enc k w blk off d hw).symm⟩)
  have HS := Lib.hid hs
  have hsz := B.hsz
  clear B hw hs
  have HLe := Lib.hid L
  clear L
  have e1 : IntKind.i64.wrap ((m : Int) - (a : Int)) = (m : Int) - (a : Int) := by rw [IntKind.wrap_i64]; omega
  have e1b : ((m : Int) - (a : Int) == 1) = false := by rw [beq_eq_false_iff_ne]; omega
  have e2 : IntKind.i64.wrap (((m + 1 : Nat) : Int) - (m : Int)) = 1 := by rw [IntKind.wrap_i64]; omega
  obtain ⟨b, hm⟩ : ∃ b, b = m + 1 := ⟨_, rfl⟩
  rw [← hm] at e2 ⊢
  have HM := Lib.hid hm
  have hm1 : m + 1 ≤ b := by omega
  have hm2 : b ≤ m + 1 := by omega
  clear hm
  go_enter HLe.out.fsym, Tryd.ntmps152
  go_wp2
  go_loopg [14, 15] (m - a) (fun g1 vi vj wr => ∃ (i j : Nat), vi = .int .i64 i ∧ vj = .int .i64 j ∧ a ≤ i ∧ i ≤ j ∧ j ≤ m ∧ j - i ≤ g1 ∧ Hid (SWm enc k w blk off d wr) ∧ Hid ((i = a ∨ ltOf cf d[m]! d[i - 1]! = false) ∧ (j = m ∨ ltOf cf d[m]! d[j]! = true)))
  case atStart => exact ⟨a, m, rfl, rfl, Nat.le_refl _, by omega, Nat.le_refl _, Nat.le_refl _, HST, Lib.hid ⟨.inl rfl, .inl rfl⟩⟩
  case round =>
    clear HST
    obtain ⟨i, j, rfl, rfl, hmi, hij, hjb, hg1, SW, IV⟩ := hrel
    by_cases hlt : i < j
    · have hz : (i : Int) < (j : Int) := by omega
      have wz : IntKind.i64.wrap ((i : Int) + (j : Int)) = (i : Int) + (j : Int) := by rw [IntKind.wrap_i64]; omega
      have hh : ((i : Int) + (j : Int)) / 2 = (((i + j) / 2 : Nat) : Int) := by omega
      obtain ⟨h, hhd⟩ : ∃ h, (i + j) / 2 = h := ⟨_, rfl⟩
      have hb1 : i ≤ h ∧ h < j := by omega
      rw [hhd] at hh
      have lh := BB.out.load SW.out rfl (x := h) (by omega)
      have la := BB.out.load SW.out rfl (x := m) (by omega)
      have hcg := BB.out.cmp SW.out rfl d[m]! d[h]!
      have jh : (h : Int) < (d.size : Int) := by omega
      have ja : (m : Int) < (d.size : Int) := by omega
      obtain ⟨xh, hxh⟩ : ∃ x, d[h]! = x := ⟨_, rfl⟩
      obtain ⟨xa, hxa⟩ : ∃ x, d[m]! = x := ⟨_, rfl⟩
      rw [hxh] at lh hcg
      rw [hxa] at la hcg
      have XX := Lib.hid (And.intro hxh hxa)
      clear hxh hxa
      by_cases hlv : cf xa xh < 0
      · have hd : decide (cf xa xh < 0) = true := decide_eq_true hlv
        go_wp2_with fail
        go_quiet_grown (first | (go_at_fn g; refine Calls.grown_of (hcg _ _)))
        go_wp2
        go_roundg (h - i)
        case measure => omega
        case rel => exact ⟨i, h, rfl, by go_num, hmi, by omega, by omega, Nat.le_refl _, Lib.hid (SW.out.grown nq osq), Lib.hid ⟨IV.out.1, .inr (by rw [XX.out.1, XX.out.2]; exact decide_eq_true hlv)⟩⟩
      · have hd : decide (cf xa xh < 0) = false := decide_eq_false (by omega)
        go_wp2_with fail
        go_quiet_grown (first | (go_at_fn g; refine Calls.grown_of (hcg _ _)))
        go_wp2
        go_roundg (j - (h + 1))
        case measure => omega
        case rel => exact ⟨h + 1, j, by go_num, rfl, by omega, by omega, hjb, Nat.le_refl _, Lib.hid (SW.out.grown nq osq), Lib.hid ⟨.inr (by rw [Nat.add_sub_cancel, XX.out.1, XX.out.2]; exact decide_eq_false (by omega)), IV.out.2⟩⟩
    · obtain rfl : i = j := by omega
      have hz : ¬ (i : Int) < (i : Int) := by omega
      obtain ⟨t, ht⟩ : ∃ t, i = m - t ∧ t ≤ m := ⟨m - i, by omega⟩
      have HT := Lib.hid ht
      have ht2 : i + t = m := by omega
      have ht3 : t ≤ m := ht.2
      clear ht
      have HT2 := Lib.hid ht2
      have ht4 : i + t ≤ m := by omega
      have ht5 : m ≤ i + t := by omega
      clear ht2
      go_wp2
      go_loopg [17] t (fun g1 vk wr => ∃ (s : Nat) (dk : Array α), vk = .int .i64 (m - s : Nat) ∧ s ≤ t ∧ t - s ≤ g1 ∧ Hid (SWm enc k w blk off dk wr) ∧ Hid (Rot (m - s) m (m + 1) d dk))
      case atStart => exact ⟨0, d, rfl, Nat.zero_le _, Nat.le_refl _, SW, Lib.hid (Rot.refl m (m + 1) d)⟩
      case round =>
        obtain ⟨s, dk, rfl, hst, hg2, SW2, RR⟩ := hrel
        by_cases hs2 : s < t
        · have hsk : dk.size = d.size := RR.out.size
          have hh2 := rot_down RR.out (by omega) (by omega)
          have hHd : HoldsK enc k (grow (wr.drewN 1) #[]) blk off dk := BB.out.holds (SW2.out.grown 1 #[]) hsk
          rw [grow_empty] at hHd
          have hw0 : SWm enc k w blk off (swp dk (m - s) (m - s - 1)) ((wr.drew.setCells blk (off + (m - s) * k) (enc dk[m - s - 1]!)).setCells blk (off + (m - s - 1) * k) (enc dk[m - s]!)) := by
            obtain ⟨q, os0, rfl⟩ := SW2.out
            exact ⟨q + 1, os0, sortWorldK_swp_c enc k w blk off BB.out.hk q dk os0 BB.out.hblk (m - s) (m - s - 1) (by omega) (by omega)⟩
          have bnd : ∀ x, x < dk.size → x * k + k ≤ dk.size * k := fun x hx => by
            have := Nat.mul_le_mul_right k (show x + 1 ≤ dk.size from hx); rwa [Nat.add_mul, Nat.one_mul] at this
          obtain ⟨p, hp⟩ : ∃ p, m - s = p + 1 := ⟨m - s - 1, by omega⟩
          have hpi : i < p + 1 := by omega
          have hpd : p + 1 < d.size := by omega
          have hnx : m - (s + 1) = p := by omega
          rw [hp, Nat.add_sub_cancel] at hw0 hh2
          rw [hp]
          have hz2 : (i : Int) < (p : Int) + 1 := by omega
          have la : Sem.run P (loadCellsFrom ⟨blk, off + (p + 1) * k, none⟩ 0 k #[]) wr.drew = .ok (enc dk[p + 1]!).toArray wr.drew := run_loadCellsFrom_list _ _ _ _ k (BB.out.hk _) (HoldsK.cells hHd BB.out.hk (by omega))
          have lb : Sem.run P (loadCellsFrom ⟨blk, off + p * k, none⟩ 0 k #[]) wr.drew = .ok (enc dk[p]!).toArray wr.drew := run_loadCellsFrom_list _ _ _ _ k (BB.out.hk _) (HoldsK.cells hHd BB.out.hk (by omega))
          have s1 : Sem.run P (storeCells ⟨blk, off + (p + 1) * k, none⟩ (enc dk[p]!) 0) wr.drew = .ok () (wr.drew.setCells blk (off + (p + 1) * k) (enc dk[p]!)) := stores_of_holds _ hHd ((p + 1) * k) _ (by rw [BB.out.hk, size_flatK]; exact bnd _ (by omega)) (BB.out.h1 _)
          have s2 : Sem.run P (storeCells ⟨blk, off + p * k, none⟩ (enc dk[p + 1]!) 0) (wr.drew.setCells blk (off + (p + 1) * k) (enc dk[p]!)) = .ok () ((wr.drew.setCells blk (off + (p + 1) * k) (enc dk[p]!)).setCells blk (off + p * k) (enc dk[p + 1]!)) :=
            stores_of_holds _ (holds_setCells_c hHd ((p + 1) * k) _ (by rw [BB.out.hk, size_flatK]; exact bnd _ (by omega))) (p * k) _ (by rw [BB.out.hk, size_setMany, size_flatK]; exact bnd _ (by omega)) (BB.out.h1 _)
          have hla : (enc dk[p]!).length = k := BB.out.hk _
          have hlb : (enc dk[p + 1]!).length = k := BB.out.hk _
          have HW := Lib.hid hw0
          have HR := Lib.hid hh2
          have HP := Lib.hid hnx
          clear hw0 hh2 hHd bnd hp hnx
          generalize enc dk[p]! = ca at *
          generalize enc dk[p + 1]! = cb2 at *
          have j0 : (p : Int) < (d.size : Int) := by omega
          have j1 : (p : Int) + 1 < (d.size : Int) := by omega
          have p0 : (0 : Int) ≤ (p : Int) + 1 := by omega
          have e0 : ((p : Int) + 1).toNat = p + 1 := by omega
          have w1 : IntKind.i64.wrap (p : Int) = (p : Int) := by rw [IntKind.wrap_i64]; omega
          go_wp2_with fail
          go_big_region_o
          all_goals go_wp2
          go_roundg (t - (s + 1))
          case measure => omega
          case rel => exact ⟨s + 1, _, by rw [HP.out], by omega, Nat.le_refl _, HW, HR⟩
        · obtain rfl : s = t := by omega
          have hz2 : ¬ (i : Int) < ((m - s : Nat) : Int) := by omega
          go_wp2
          go_end0
          have hm := HM.out
          have h2 := HT.out.1
          refine ⟨rfl, dk, SW2.out, ?_, ?_⟩
          · rw [← h2] at RR
            have h1 := RR.out.perm (by omega) (by omega) (by omega)
            exact permIn_mono _ _ _ _ _ _ (by omega) (by omega) (by omega) h1
          · rw [← h2] at RR
            rw [hm]
            exact ins_right BB.out.hS (by omega) (by omega) HS.out RR.out IV.out.1 IV.out.2
end
end Go.Proofs.YtaoejgnfoecpfaaDoor
namespace Go.Proofs.YtaoejgnfoecpfaaDoor
set_option linter.unusedVariables false
set_option linter.unusedSimpArgs false
set_option linter.unusedSectionVars false
open Go.RowKit

/-- the class: worlds in which nothing of what there was has changed -/
theorem wp_region_below {P : Program} {id : Nat} {Q : Exit → Act → World → Prop} {a : Act} {w : World} {l : List Oper} (hm : P.follows .mixedOrders = true) (hB : Region.lexB .any l.toArray = true)
    (h : wpQuiet P l.toArray (fun W => Below w.heap.size w W) (fun a' => ∀ w', Below w.heap.size w w' → Q .normal a' w') l a) : (Code.region id l.toArray true).wp P Q a w :=
  wp_region_quiet (C := fun W => Below w.heap.size w W) hm hB (Below.refl _ w).drew (by simpa using h)
end Go.Proofs.YtaoejgnfoecpfaaDoor
