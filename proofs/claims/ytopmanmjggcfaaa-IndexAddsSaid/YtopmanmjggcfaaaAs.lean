/- Rows of heads that came in as arguments. -/
import Derived.Test.YtopmanmjggcfaaaJm
import Derived.WalkKit
import Derived.ProofKit
import Derived.OpenShut
import Derived.ChangeOld
import Derived.ChangeMaps5
import Derived.SliceStrings
import Derived.Deep.Slices
import Derived.Deep.Fields
import Derived.Deep.Grids
import Derived.ChangeSame
namespace Go.Proofs.Ytopmanmjggcfaaa
open Go.RowKit Go.Maps Go.ChangeShapes Go.WideShapes Go.ChangeAt Go.Deep

theorem laidOut : laidOutB Try.prog = true := by kernel_rfl
theorem addr_addx (x : Addr) (hx : x.spot = none) (i : Nat) : x.add i = ⟨x.block, x.off + i, none⟩ := by
  unfold Addr.add
  obtain ⟨g, o, s⟩ := x
  simp only at hx
  subst hx
  split <;> simp_all
/-- from 'for every place there is one' to a list -/
theorem list_of {α : Type} {p : Nat → α → Prop} : ∀ {n : Nat}, (∀ i, i < n → ∃ x, p i x) → ∃ l : List α, l.length = n ∧ ∀ i (h : i < l.length), p i l[i]
  | 0, _ => ⟨[], rfl, fun i h => absurd h (by simp)⟩
  | n + 1, h => by
    obtain ⟨l, hl, hp⟩ := list_of (n := n) fun i hi => h i (by omega)
    obtain ⟨x, hx⟩ := h n (by omega)
    refine ⟨l ++ [x], by simp [hl], fun i hi => ?_⟩
    by_cases hlt : i < l.length
    · rw [List.getElem_append_left hlt]; exact hp i hlt
    · have : i = n := by simp at hi; omega
      subst this
      rw [List.getElem_append_right (by omega)]
      simpa [hl] using hx

/-- a row of elements of so many cells, each of which tells an x -/
def RowS {α : Type} (w : World) (size : Nat) (dec : Array Value → α → Prop) (v : Value) (l : List α) : Prop :=
  ∃ a c, v = .slice a l.length c ∧ l.length ≤ 9223372036854775807 ∧ ∀ i (h : i < l.length), ∃ b o cs, a = some ⟨b, o, none⟩ ∧ b < w.heap.size ∧ dec cs l[i] ∧ ∀ (j : Nat) u, cs[j]? = some u → w.cell? ⟨b, o + i * size + j, none⟩ = some u

section
variable {H : Type} {enc : TypeId × Value → H} {W : World} {base base' : Nat} {v : Value} {d : DataW H} {p : List MemPlace}

set_option maxRecDepth 100000 in
/-- a row of structs whose fields are of one cell each -/
theorem structs_in {α : Type} {t e : TypeId} {fs : Array Field} (dec : Array Value → α → Prop) (ht : Try.prog.underlying t = some (.slice e)) (he : Try.prog.underlying e = some (.struct fs))
    (hpos : 0 < fs.size) (hone : oneCellFields Try.prog fs = true) (hC : Try.prog.cellsOf e = fs.size) (hv : Value.okWide Try.prog W .any base t v) (h : DataW.Trod enc Try.prog W base' (fun _ => true) true t v d p)
    (hdec : ∀ cs : Array Value, cs.size = fs.size → (∀ (j : Nat) (f : Field), fs[j]? = some f → ∃ u n y, cs[j]? = some u ∧ DataW.trod enc Try.prog W base' (fun _ => true) true n f.type [u] = some y) → ∃ x, dec cs x) :
    ∃ l, RowS W fs.size dec v l := by
  obtain ⟨a0, len0, cap0, rfl⟩ := okWide_slice ht hv
  obtain ⟨fuel, hf⟩ := h
  rcases open_slice ht hf with ⟨hcs, _⟩ | ⟨a, len, cap, m, n, D, Pl, hcs, hb, hl, hm, hmm, _, hi⟩
  · simp [Value.cells] at hcs
    obtain ⟨rfl, rfl, rfl⟩ := hcs
    exact ⟨[], none, 0, rfl, by simp, fun i h => absurd h (by simp)⟩
  · simp [Value.cells] at hcs
    obtain ⟨rfl, rfl, rfl⟩ := hcs
    simp only [if_true] at hmm
    have hx : ∀ i, i < len0 → ∃ x, ∃ b o cs, a = ⟨b, o, none⟩ ∧ b < W.heap.size ∧ dec cs x ∧ ∀ (j : Nat) u, cs[j]? = some u → W.cell? ⟨b, o + i * fs.size + j, none⟩ = some u := by
      intro i hil
      obtain ⟨cs', hc, ht'⟩ := hi i (by omega)
      rw [hC] at hc
      obtain ⟨ys, n', _, _, hlen, hyl, hfy⟩ := DataW.trod_struct he ht'
      obtain ⟨_, hcl, hat⟩ := World.cells?_some hc
      have hsz : cs'.toArray.size = fs.size := by simpa using hcl
      have hfield : ∀ (j : Nat) (f : Field), fs[j]? = some f → ∃ u n y, cs'.toArray[j]? = some u ∧ DataW.trod enc Try.prog W base' (fun _ => true) true n f.type [u] = some y := by
        intro j f hj
        obtain ⟨ho, hk⟩ := hone_of hone j f hj
        have hjl : j < fs.size := (Array.getElem?_eq_some_iff.1 hj).1
        have hvj : cs'[j]? = some (cs'[j]'(by omega)) := List.getElem?_eq_getElem (by omega)
        have h1 := hfy j f hj
        rw [ho, hk] at h1
        have hone' : (cs'.drop j).take 1 = [cs'[j]'(by omega)] := by
          rw [List.drop_eq_getElem_cons (by omega)]
          rfl
        rw [hone'] at h1
        have hys : ys[j]? = some (ys[j]'(by omega)) := List.getElem?_eq_getElem (by omega)
        exact ⟨_, n', _, by simp, h1.trans hys⟩
      obtain ⟨x, hd⟩ := hdec cs'.toArray hsz hfield
      have hcell : ∀ (j : Nat) u, cs'.toArray[j]? = some u → W.cell? (a.add (i * fs.size + j)) = some u := by
        intro j u hj
        have hjl : j < fs.size := by
          have := (Array.getElem?_eq_some_iff.1 hj).1
          omega
        have := hat j hjl
        rw [← Go.Deep.add_add, this]
        simpa using hj
      have h00 := hcell 0 (cs'[0]'(by omega)) (by simp)
      have hsp : a.spot = none := by
        obtain ⟨c0, hc0, _⟩ := hi 0 (by omega)
        rw [hC] at hc0
        obtain ⟨_, hcl0, hat0⟩ := World.cells?_some hc0
        have h1 := hat0 0 (by omega)
        have h2 : c0[0]? = some (c0[0]'(by omega)) := List.getElem?_eq_getElem (by omega)
        rw [h2] at h1
        have h3 := World.cell?_spot h1
        unfold Addr.add at h3
        simpa using h3
      have hae : a = ⟨a.block, a.off, none⟩ := by
        obtain ⟨g, o, s⟩ := a
        simp only at hsp
        subst hsp; rfl
      have hlt : a.block < W.heap.size := by
        have := World.block_lt_of_cell? _ _ h00
        rw [addr_addx a hsp] at this
        exact this
      refine ⟨x, a.block, a.off, cs'.toArray, hae, hlt, hd, fun j u hj => ?_⟩
      have := hcell j u hj
      rw [addr_addx a hsp] at this
      rw [Nat.add_assoc]; exact this
    obtain ⟨l, hll, hlp⟩ := list_of hx
    refine ⟨l, some a, cap0, by rw [hll], by rw [hll]; simp only [maxLen] at hm; omega, fun i h => ?_⟩
    obtain ⟨b, o, cs, h1, h2, h3, h4⟩ := hlp i h
    exact ⟨b, o, cs, by rw [h1], h2, h3, h4⟩

theorem int_trod {t : TypeId} {n : Nat} {y : DataW H × List MemPlace} (ht : Try.prog.underlying t = some (.int .i64)) (h : DataW.trod enc Try.prog W base' (fun _ => true) true n t [v] = some y) : ∃ k : Int, v = .int .i64 k ∧ -9223372036854775808 ≤ k ∧ k ≤ 9223372036854775807 := by
  obtain ⟨k, hcs, _, hw⟩ := DataW.trod_int ht h
  simp at hcs
  subst hcs
  have h2 : (decide (IntKind.i64.min ≤ k) && decide (k ≤ IntKind.i64.max)) = true := hw
  simp only [Bool.and_eq_true, decide_eq_true_eq] at h2
  exact ⟨k, rfl, h2⟩
theorem bool_trod {t : TypeId} {n : Nat} {y : DataW H × List MemPlace} (ht : Try.prog.underlying t = some .bool) (h : DataW.trod enc Try.prog W base' (fun _ => true) true n t [v] = some y) : ∃ k : Bool, v = .bool k := by
  obtain ⟨k, hcs, _⟩ := DataW.trod_bool ht h
  simp at hcs
  exact ⟨k, hcs⟩
theorem string_trod {t : TypeId} {n : Nat} {y : DataW H × List MemPlace} (ht : Try.prog.underlying t = some .string) (h : DataW.trod enc Try.prog W base' (fun _ => true) true n t [v] = some y) : ∃ s : ByteArray, v = .string s ∧ s.size ≤ 9223372036854775807 := by
  obtain ⟨k, hcs, _, hw⟩ := DataW.trod_string ht h
  simp at hcs
  simp only [maxLen] at hw
  exact ⟨k, hcs, hw⟩

theorem word_trod {t : TypeId} {n : Nat} {y : DataW H × List MemPlace} (ht : Try.prog.underlying t = some (.int .u32)) (h : DataW.trod enc Try.prog W base' (fun _ => true) true n t [v] = some y) : ∃ k : Int, v = .int .u32 k ∧ 0 ≤ k ∧ k ≤ 4294967295 := by
  obtain ⟨k, hcs, _, hw⟩ := DataW.trod_int ht h
  simp at hcs
  subst hcs
  have h2 : (decide (IntKind.u32.min ≤ k) && decide (k ≤ IntKind.u32.max)) = true := hw
  simp only [Bool.and_eq_true, decide_eq_true_eq] at h2
  have e1 : IntKind.u32.min = 0 := by decide
  have e2 : IntKind.u32.max = 4294967295 := by decide
  exact ⟨k, rfl, by omega, by omega⟩
/-- a head as it lies -/
def hdD (cs : Array Value) (x : Hd) : Prop := cs = (hdC x).toArray ∧ 0 ≤ x.crc ∧ x.crc ≤ 4294967295 ∧ x.name.size ≤ 9223372036854775807
theorem arr6 {cs : Array Value} {a b c d e f : Value} (hs : cs.size = 6) (h0 : cs[0]? = some a) (h1 : cs[1]? = some b) (h2 : cs[2]? = some c) (h3 : cs[3]? = some d) (h4 : cs[4]? = some e) (h5 : cs[5]? = some f) : cs = #[a, b, c, d, e, f] := by
  obtain ⟨l⟩ := cs
  match l, hs with
  | [x, y, z, u, v, w], _ => simp_all
/-- a row of heads -/
def HdsIn (w : World) (v : Value) (l : List Hd) : Prop := ∃ A c, v = .slice A l.length c ∧ RowA w w.heap.size 6 A (l.map hdC) ∧ l.length ≤ 9223372036854775807 ∧ CrcOk l
set_option maxRecDepth 100000 in
theorem hds_in (hv : Value.okWide Try.prog W .any base 22 v) (h : DataW.Trod enc Try.prog W base' (fun _ => true) true 22 v d p) : ∃ l, HdsIn W v l := by
  have : ∃ l, RowS W 6 hdD v l := by
    refine structs_in (fs := _) hdD Try.underlying22 Try.underlying32 (by decide) (by kernel_rfl) (by kernel_rfl) hv h fun cs hs hf => ?_
    obtain ⟨u0, n0, y0, h0, t0⟩ := hf 0 _ rfl
    obtain ⟨u1, n1, y1, h1, t1⟩ := hf 1 _ rfl
    obtain ⟨u2, n2, y2, h2, t2⟩ := hf 2 _ rfl
    obtain ⟨u3, n3, y3, h3, t3⟩ := hf 3 _ rfl
    obtain ⟨u4, n4, y4, h4, t4⟩ := hf 4 _ rfl
    obtain ⟨u5, n5, y5, h5, t5⟩ := hf 5 _ rfl
    obtain ⟨nm, rfl, hn⟩ := string_trod Try.underlying9 t0
    obtain ⟨me, rfl, _⟩ := int_trod Try.underlying3 t1
    obtain ⟨cr, rfl, hc⟩ := word_trod Try.underlying30 t2
    obtain ⟨pc, rfl, _⟩ := int_trod Try.underlying3 t3
    obtain ⟨sz, rfl, _⟩ := int_trod Try.underlying3 t4
    obtain ⟨aa, rfl, _⟩ := int_trod Try.underlying3 t5
    exact ⟨⟨nm, me, cr, pc, sz, aa⟩, arr6 hs h0 h1 h2 h3 h4 h5, hc.1, hc.2, hn⟩
  obtain ⟨l, A, c, rfl, hl, hp⟩ := this
  refine ⟨l, A, c, rfl, fun hpos => ?_, hl, ?_⟩
  · rw [List.length_map] at hpos
    obtain ⟨b, o, cs, rfl, hb, hd, hcell⟩ := hp 0 hpos
    refine ⟨b, o, rfl, hb, fun i c hi j u hj => ?_⟩
    have hil : i < l.length := by
      have := (List.getElem?_eq_some_iff.1 hi).1
      rwa [List.length_map] at this
    obtain ⟨b2, o2, cs2, e, _, hd2, hcell2⟩ := hp i hil
    injection e with e
    injection e with e1 e2
    subst e1 e2
    refine hcell2 j u ?_
    rw [List.getElem?_map, List.getElem?_eq_getElem hil] at hi
    obtain rfl := Option.some.inj hi
    rw [hd2.1]
    simpa using hj
  · intro h hh
    obtain ⟨i, hi, rfl⟩ := List.getElem_of_mem hh
    obtain ⟨_, _, _, _, _, hd2, _⟩ := hp i hi
    exact ⟨hd2.2.1, hd2.2.2.1⟩
end
theorem back_card (l1 : List Hd) (v1 : Value) (l2 : List Hd) (v2 : Value) (w : World) (h1 : HdsIn w v1 l1) (h2 : HdsIn w v2 l2) :
    Calls Try.prog 6 #[v1, v2] w fun e w' => e = .returned (.bool true) ∧ Below w.heap.size w w' := by
  obtain ⟨A1, c1, rfl, r1, z1, k1⟩ := h1
  obtain ⟨A2, c2, rfl, r2, z2, k2⟩ := h2
  exact back_all l1 l2 A1 A2 c1 c2 w r1 r2 z1 z2 k1 k2
end Go.Proofs.Ytopmanmjggcfaaa
