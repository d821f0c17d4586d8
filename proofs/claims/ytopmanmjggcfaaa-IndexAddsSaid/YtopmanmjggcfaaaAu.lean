/- Rows of packs that came in as arguments. -/
import Derived.Test.YtopmanmjggcfaaaAs
import Derived.Test.YtopmanmjggcfaaaJp
import Derived.SizedLaws
namespace Go.Proofs.Ytopmanmjggcfaaa
open Go.RowKit Go.Maps Go.ChangeShapes Go.WideShapes Go.ChangeAt Go.Deep

theorem weightsAll_mem {H : Type} {P : Program} {e : TypeId} : ∀ {l : List (DataW H)} {x : DataW H} {n : Nat}, x ∈ l → n ∈ x.weights P e → n ∈ DataW.weightsAll P e l
  | y :: r, x, n, hx, hn => by
    simp only [DataW.weightsAll, List.mem_append]
    rcases List.mem_cons.1 hx with rfl | hx
    · exact Or.inl hn
    · exact Or.inr (weightsAll_mem hx hn)

section
variable {H : Type} {enc : TypeId × Value → H} {W : World} {base base' : Nat} {v : Value} {d : DataW H} {p : List MemPlace}

set_option maxRecDepth 100000 in
/-- a row of structs whose fields are of one cell each, out of one cell -/
theorem rows_sized {α : Type} {t e : TypeId} {fs : Array Field} (dec : Array Value → α → Prop) (ht : Try.prog.underlying t = some (.slice e)) (he : Try.prog.underlying e = some (.struct fs))
    (hpos : 0 < fs.size) (hone : oneCellFields Try.prog fs = true) (hC : Try.prog.cellsOf e = fs.size) {fu : Nat} {y : DataW H × List MemPlace} (h : DataW.trod enc Try.prog W base' (fun _ => true) true fu t [v] = some y) (hwt : ∀ n ∈ y.1.weights Try.prog t, n ≤ reachBytes)
    (hdec : ∀ cs : Array Value, cs.size = fs.size → (∀ (j : Nat) (f : Field), fs[j]? = some f → ∃ u n y, cs[j]? = some u ∧ DataW.trod enc Try.prog W base' (fun _ => true) true n f.type [u] = some y ∧ ∀ n ∈ y.1.weights Try.prog f.type, n ≤ reachBytes) → ∃ x, dec cs x) :
    ∃ l, RowS W fs.size dec v l := by
  obtain ⟨d, p⟩ := y
  rcases open_slice ht h with ⟨hcs, _⟩ | ⟨a, len0, cap0, m, n, D, Pl, hcs, hb, hl, hm, hmm, hx0, hi⟩
  · simp at hcs
    subst hcs
    exact ⟨[], none, 0, rfl, by simp, fun i h => absurd h (by simp)⟩
  · simp at hcs
    subst hcs
    simp only [if_true] at hmm
    simp only [Prod.mk.injEq] at hx0
    have hx : ∀ i, i < len0 → ∃ x, ∃ b o cs, a = ⟨b, o, none⟩ ∧ b < W.heap.size ∧ dec cs x ∧ ∀ (j : Nat) u, cs[j]? = some u → W.cell? ⟨b, o + i * fs.size + j, none⟩ = some u := by
      intro i hil
      obtain ⟨cs', hc, ht'⟩ := hi i (by omega)
      rw [hC] at hc
      obtain ⟨ys, n', _, hyD, hlen, hyl, hfy⟩ := DataW.trod_struct he ht'
      simp only [Prod.mk.injEq] at hyD
      obtain ⟨_, hcl, hat⟩ := World.cells?_some hc
      have hsz : cs'.toArray.size = fs.size := by simpa using hcl
      have hfield : ∀ (j : Nat) (f : Field), fs[j]? = some f → ∃ u n y, cs'.toArray[j]? = some u ∧ DataW.trod enc Try.prog W base' (fun _ => true) true n f.type [u] = some y ∧ ∀ n ∈ y.1.weights Try.prog f.type, n ≤ reachBytes := by
        intro j f hj
        obtain ⟨ho, hk⟩ := hone_of hone j f hj
        have hjl : j < fs.size := (Array.getElem?_eq_some_iff.1 hj).1
        have hvj : cs'[j]? = some (cs'[j]'(by omega)) := List.getElem?_eq_getElem (by omega)
        have h1 := hfy j f hj
        rw [ho, hk] at h1
        have hone' : (cs'.drop j).take 1 = [cs'[j]'(by omega)] := by
          rw [List.drop_eq_getElem_cons (by omega)]
          rfl
        rw [hone'] at h1
        have hys : ys[j]? = some (ys[j]'(by omega)) := List.getElem?_eq_getElem (by omega)
        refine ⟨_, n', _, by simp, h1.trans hys, fun q hq => hwt q ?_⟩
        rw [hx0.1]
        have h2 : q ∈ (D i).weights Try.prog e := by
          rw [hyD.1]
          simp only [DataW.weights, he]
          exact DataW.weights_mem_each (j := j) (t := f.type) (by simp [hj]) (by simp [hys]) q hq
        have h3 : q ∈ DataW.weightsAll Try.prog e ((List.range len0).map D) := weightsAll_mem (List.mem_map.2 ⟨i, List.mem_range.2 hil, rfl⟩) h2
        simp only [DataW.weights, ht]
        exact List.mem_cons_of_mem _ (List.mem_append.2 (Or.inl h3))
      obtain ⟨x, hd⟩ := hdec cs'.toArray hsz hfield
      have hcell : ∀ (j : Nat) u, cs'.toArray[j]? = some u → W.cell? (a.add (i * fs.size + j)) = some u := by
        intro j u hj
        have hjl : j < fs.size := by
          have := (Array.getElem?_eq_some_iff.1 hj).1
          omega
        have := hat j hjl
        rw [← Go.Deep.add_add, this]
        simpa using hj
      have h00 := hcell 0 (cs'[0]'(by omega)) (by simp)
      have hsp : a.spot = none := by
        obtain ⟨c0, hc0, _⟩ := hi 0 (by omega)
        rw [hC] at hc0
        obtain ⟨_, hcl0, hat0⟩ := World.cells?_some hc0
        have h1 := hat0 0 (by omega)
        have h2 : c0[0]? = some (c0[0]'(by omega)) := List.getElem?_eq_getElem (by omega)
        rw [h2] at h1
        have h3 := World.cell?_spot h1
        unfold Addr.add at h3
        simpa using h3
      have hae : a = ⟨a.block, a.off, none⟩ := by
        obtain ⟨g, o, s⟩ := a
        simp only at hsp
        subst hsp; rfl
      have hlt : a.block < W.heap.size := by
        have := World.block_lt_of_cell? _ _ h00
        rw [addr_addx a hsp] at this
        exact this
      refine ⟨x, a.block, a.off, cs'.toArray, hae, hlt, hd, fun j u hj => ?_⟩
      have := hcell j u hj
      rw [addr_addx a hsp] at this
      rw [Nat.add_assoc]; exact this
    obtain ⟨l, hll, hlp⟩ := list_of hx
    refine ⟨l, some a, cap0, by rw [hll], by rw [hll]; simp only [maxLen] at hm; omega, fun i h => ?_⟩
    obtain ⟨b, o, cs, h1, h2, h3, h4⟩ := hlp i h
    exact ⟨b, o, cs, by rw [h1], h2, h3, h4⟩

theorem string_sized {t : TypeId} {n : Nat} {y : DataW H × List MemPlace} (ht : Try.prog.underlying t = some .string) (h : DataW.trod enc Try.prog W base' (fun _ => true) true n t [v] = some y) (hwt : ∀ n ∈ y.1.weights Try.prog t, n ≤ reachBytes) : ∃ s : ByteArray, v = .string s ∧ s.size ≤ 140737488355328 := by
  obtain ⟨k, hcs, hy, hw⟩ := DataW.trod_string ht h
  simp at hcs
  subst hy
  refine ⟨k, hcs, ?_⟩
  have h2 := hwt k.data.toList.length (by simp [DataW.weights])
  unfold reachBytes at h2
  have h3 : k.data.toList.length = k.size := by rw [Array.length_toList]; rfl
  omega
set_option maxRecDepth 100000 in
/-- a row of heads, out of a field -/
theorem hds_sized {fu : Nat} {y : DataW H × List MemPlace} (h : DataW.trod enc Try.prog W base' (fun _ => true) true fu 22 [v] = some y) (hwt : ∀ n ∈ y.1.weights Try.prog 22, n ≤ reachBytes) : ∃ l, HdsIn W v l ∧ ∀ h ∈ l, h.name.size ≤ 140737488355328 := by
  have : ∃ l, RowS W 6 (fun cs x => hdD cs x ∧ x.name.size ≤ 140737488355328) v l := by
    refine rows_sized (fs := _) (fun cs x => hdD cs x ∧ x.name.size ≤ 140737488355328) Try.underlying22 Try.underlying32 (by decide) (by kernel_rfl) (by kernel_rfl) h hwt fun cs hs hf => ?_
    obtain ⟨u0, n0, y0, h0, t0, g0⟩ := hf 0 _ rfl
    obtain ⟨u1, n1, y1, h1, t1, _⟩ := hf 1 _ rfl
    obtain ⟨u2, n2, y2, h2, t2, _⟩ := hf 2 _ rfl
    obtain ⟨u3, n3, y3, h3, t3, _⟩ := hf 3 _ rfl
    obtain ⟨u4, n4, y4, h4, t4, _⟩ := hf 4 _ rfl
    obtain ⟨u5, n5, y5, h5, t5, _⟩ := hf 5 _ rfl
    obtain ⟨nm, rfl, hn⟩ := string_sized Try.underlying9 t0 g0
    obtain ⟨me, rfl, _⟩ := int_trod Try.underlying3 t1
    obtain ⟨cr, rfl, hc⟩ := word_trod Try.underlying30 t2
    obtain ⟨pc, rfl, _⟩ := int_trod Try.underlying3 t3
    obtain ⟨sz, rfl, _⟩ := int_trod Try.underlying3 t4
    obtain ⟨aa, rfl, _⟩ := int_trod Try.underlying3 t5
    exact ⟨⟨nm, me, cr, pc, sz, aa⟩, ⟨arr6 hs h0 h1 h2 h3 h4 h5, hc.1, hc.2, Nat.le_trans hn (by decide)⟩, hn⟩
  obtain ⟨l, A, c, rfl, hl, hp⟩ := this
  refine ⟨l, ⟨A, c, rfl, fun hpos => ?_, hl, ?_⟩, ?_⟩
  · rw [List.length_map] at hpos
    obtain ⟨b, o, cs, rfl, hb, hd, hcell⟩ := hp 0 hpos
    refine ⟨b, o, rfl, hb, fun i c hi j u hj => ?_⟩
    have hil : i < l.length := by
      have := (List.getElem?_eq_some_iff.1 hi).1
      rwa [List.length_map] at this
    obtain ⟨b2, o2, cs2, e, _, hd2, hcell2⟩ := hp i hil
    injection e with e
    injection e with e1 e2
    subst e1 e2
    refine hcell2 j u ?_
    rw [List.getElem?_map, List.getElem?_eq_getElem hil] at hi
    obtain rfl := Option.some.inj hi
    rw [hd2.1.1]
    simpa using hj
  · intro h hh
    obtain ⟨i, hi, rfl⟩ := List.getElem_of_mem hh
    obtain ⟨_, _, _, _, _, hd2, _⟩ := hp i hi
    exact ⟨hd2.1.2.1, hd2.1.2.2.1⟩
  · intro h hh
    obtain ⟨i, hi, rfl⟩ := List.getElem_of_mem hh
    obtain ⟨_, _, _, _, _, hd2, _⟩ := hp i hi
    exact hd2.2
theorem arr2 {cs : Array Value} {a b : Value} (hs : cs.size = 2) (h0 : cs[0]? = some a) (h1 : cs[1]? = some b) : cs = #[a, b] := by
  obtain ⟨l⟩ := cs
  match l, hs with
  | [x, y], _ => simp_all
set_option maxRecDepth 100000 in
theorem okWide_cells {t e : TypeId} (ht : Try.prog.underlying t = some (.slice e)) (hv : Value.okWide Try.prog W .any base t v) : v.cells.toList = [v] := by
  obtain ⟨a0, len0, cap0, rfl⟩ := okWide_slice ht hv
  simp [Value.cells]
set_option maxRecDepth 100000 in
theorem pks_in (hv : Value.okWide Try.prog W .any base 40 v) (h : DataW.Trod enc Try.prog W base' (fun _ => true) true 40 v d p) (hwt : ∀ n ∈ d.weights Try.prog 40, n ≤ reachBytes) : ∃ l, PksIn W v l := by
  obtain ⟨fuel, hf⟩ := h
  rw [okWide_cells Try.underlying40 hv] at hf
  have : ∃ l, RowS W 2 (fun (cs : Array Value) (x : Pk) => ∃ u, cs = #[.string x.name, u] ∧ HdsIn W u x.heads ∧ PkOk x) v l := by
    refine rows_sized (fs := _) (fun (cs : Array Value) (x : Pk) => ∃ u, cs = #[.string x.name, u] ∧ HdsIn W u x.heads ∧ PkOk x) Try.underlying40 Try.underlying46 (by decide) (by kernel_rfl) (by kernel_rfl) hf hwt fun cs hs hf => ?_
    obtain ⟨u0, n0, y0, h0, t0, g0⟩ := hf 0 _ rfl
    obtain ⟨u1, n1, y1, h1, t1, g1⟩ := hf 1 _ rfl
    obtain ⟨nm, rfl, hn⟩ := string_sized Try.underlying9 t0 g0
    obtain ⟨hs1, hh, hz⟩ := hds_sized t1 g1
    refine ⟨⟨nm, hs1⟩, u1, arr2 hs h0 h1, hh, hn, fun g hg => ⟨hz g hg, ?_⟩⟩
    obtain ⟨_, _, _, _, _, hcrc⟩ := hh
    exact hcrc g hg
  obtain ⟨l, A, c, rfl, hl, hp⟩ := this
  refine ⟨l, A, c, rfl, hl, fun q hq => ?_, fun i hi => ?_⟩
  · obtain ⟨i, hi, rfl⟩ := List.getElem_of_mem hq
    obtain ⟨_, _, _, _, _, ⟨u, _, hh, hok⟩, _⟩ := hp i hi
    obtain ⟨_, _, _, _, hz, _⟩ := hh
    exact ⟨hok, hz⟩
  · obtain ⟨b, o, cs, rfl, hb, ⟨u, rfl, hh, hok⟩, hcell⟩ := hp i hi
    obtain ⟨B, d, rfl, hr, _, _⟩ := hh
    refine ⟨b, o, B, d, rfl, hb, ?_, hcell 1 _ rfl, hr⟩
    have := hcell 0 _ rfl
    simpa using this
end
end Go.Proofs.Ytopmanmjggcfaaa
