/- A manifest that came in as an argument. -/
import Derived.Test.YtbjompcaekbjoaaDoorLawUnlike
import Derived.WalkKit
import Derived.ProofKit
import Derived.OpenShut
import Derived.ChangeOld
import Derived.ChangeMaps5
import Derived.SliceStrings
import Derived.SizedLaws
import Derived.Lib.SmallJoins
namespace Go.Proofs.YtbjompcaekbjoaaDoor
open Go.RowKit Go.Maps Go.ChangeShapes Go.WideShapes Go.ChangeAt Go.Deep

theorem laidOut : laidOutB Tryd.prog = true := by kernel_rfl

/-- the value of a manifest in a world -/
def ManP (w : World) (v : Value) (m : Man) : Prop := ∃ A c, v = manV m A c ∧ ManIn w m A c

theorem spot_add (x : Addr) (hx : x.spot = none) (i : Nat) : x.add i = ⟨x.block, x.off + i, none⟩ := by
  unfold Addr.add
  obtain ⟨g, o, s⟩ := x
  simp only at hx
  subst hx
  split <;> simp_all

theorem cell_lt {w : World} {p : Addr} {u : Value} (h : w.cell? p = some u) : p.block < w.heap.size := by
  unfold World.cell? at h
  cases hb : w.heap[p.block]? with
  | none => simp [hb] at h
  | some o => exact (Array.getElem?_eq_some_iff.1 hb).1

section
variable {H : Type} {enc : TypeId × Value → H} {W : World} {base base' : Nat} {v : Value} {d : DataW H} {p : List MemPlace}

/-- a struct of five cells: its values and what each reads as -/
theorem five_in {P : Program} {t : TypeId} {f0 f1 f2 f3 f4 : Field} (hs : P.underlying t = some (.struct #[f0, f1, f2, f3, f4])) (hone : oneCellFields P #[f0, f1, f2, f3, f4] = true) (hC : P.cellsOf t = 5)
    (hv : Value.okWide P W .any base t v) (h : DataW.Trod enc P W base' (fun _ => true) true t v d p) :
    ∃ (c0 c1 c2 c3 c4 : Value) (y0 y1 y2 y3 y4 : DataW H × List MemPlace) (n : Nat), v = .agg #[c0, c1, c2, c3, c4] ∧ d = .agg [y0.1, y1.1, y2.1, y3.1, y4.1] ∧
      DataW.trod enc P W base' (fun _ => true) true n f0.type [c0] = some y0 ∧ DataW.trod enc P W base' (fun _ => true) true n f1.type [c1] = some y1 ∧ DataW.trod enc P W base' (fun _ => true) true n f2.type [c2] = some y2 ∧
      DataW.trod enc P W base' (fun _ => true) true n f3.type [c3] = some y3 ∧ DataW.trod enc P W base' (fun _ => true) true n f4.type [c4] = some y4 := by
  obtain ⟨cs, rfl, hsz⟩ := okWide_struct hs hv
  obtain ⟨l⟩ := cs
  match l, hsz.trans hC with
  | [c0, c1, c2, c3, c4], _ =>
    obtain ⟨fuel, hf⟩ := h
    obtain ⟨xs, n, _, hx, _, hlen, hg⟩ := DataW.trod_struct hs hf
    obtain ⟨o0, k0⟩ := hone_of hone 0 f0 rfl
    obtain ⟨o1, k1⟩ := hone_of hone 1 f1 rfl
    obtain ⟨o2, k2⟩ := hone_of hone 2 f2 rfl
    obtain ⟨o3, k3⟩ := hone_of hone 3 f3 rfl
    obtain ⟨o4, k4⟩ := hone_of hone 4 f4 rfl
    match xs, hlen with
    | [y0, y1, y2, y3, y4], _ =>
      simp only [Prod.mk.injEq] at hx
      exact ⟨c0, c1, c2, c3, c4, y0, y1, y2, y3, y4, n, rfl, by simpa using hx.1, by simpa [Value.cells, o0, k0] using hg 0 f0 rfl, by simpa [Value.cells, o1, k1] using hg 1 f1 rfl, by simpa [Value.cells, o2, k2] using hg 2 f2 rfl,
        by simpa [Value.cells, o3, k3] using hg 3 f3 rfl, by simpa [Value.cells, o4, k4] using hg 4 f4 rfl⟩

theorem wf64 {x : Int} (h : (Lit.int .i64 x).wf = true) : -9223372036854775808 ≤ x ∧ x ≤ 9223372036854775807 := by
  have h2 : (decide (IntKind.i64.min ≤ x) && decide (x ≤ IntKind.i64.max)) = true := h
  simp only [Bool.and_eq_true, decide_eq_true_eq] at h2
  have e1 : IntKind.i64.min = -9223372036854775808 := by decide
  have e2 : IntKind.i64.max = 9223372036854775807 := by decide
  omega
theorem reach47 {n : Nat} (h : n ≤ reachBytes) : n ≤ 140737488355328 := Nat.le_trans h (by decide)

set_option maxRecDepth 100000 in
theorem man_in (hv : Value.okWide Tryd.prog W .any base 24 v) (h : DataW.Trod enc Tryd.prog W base' (fun _ => true) true 24 v d p)
    (hw : ∀ n ∈ d.weights Tryd.prog 24, n ≤ reachBytes) : ∃ m, ManP W v m := by
  obtain ⟨c0, c1, c2, c3, c4, y0, y1, y2, y3, y4, n, rfl, rfl, h0, h1, h2, h3, h4⟩ := five_in Tryd.underlying24 (by kernel_rfl) (by kernel_rfl) hv h
  obtain ⟨t, e0, rfl, wt⟩ := DataW.trod_int Tryd.underlying3 h0
  obtain ⟨tag, e1, rfl, _⟩ := DataW.trod_string Tryd.underlying9 h1
  obtain ⟨par, e2, rfl, _⟩ := DataW.trod_string Tryd.underlying9 h2
  obtain ⟨z, e3, rfl, wz⟩ := DataW.trod_int Tryd.underlying3 h3
  obtain rfl : c0 = .int .i64 t := by simpa using e0
  obtain rfl : c1 = .string tag := by simpa using e1
  obtain rfl : c2 = .string par := by simpa using e2
  obtain rfl : c3 = .int .i64 z := by simpa using e3
  clear h0 h1 h2 h3 e0 e1 e2 e3
  have wt := wf64 wt
  have wz := wf64 wz
  rw [DataW.weights] at hw
  rw [Tryd.underlying24] at hw
  simp only [List.map_cons, List.map_nil, DataW.weightsEach, DataW.weights, List.mem_append, List.mem_singleton, List.not_mem_nil, false_or, or_false] at hw
  have s1 := reach47 (hw tag.data.toList.length (Or.inl rfl))
  have s2 := reach47 (hw par.data.toList.length (Or.inr (Or.inl rfl)))
  rw [ba_len] at s1 s2
  rcases open_strings Tryd.underlying22 Tryd.underlying9 (by kernel_rfl) h4 with ⟨hcs, _⟩ | ⟨x, l, c, zs, hcs, _, hl, hm, hz, hy, hcell, hwz⟩
  · obtain rfl : c4 = .slice none 0 0 := by simpa using hcs
    exact ⟨⟨t, tag, par, z, []⟩, none, 0, rfl, fun hx => absurd hx (Nat.lt_irrefl 0), Nat.le_refl _, fun _ => ⟨rfl, rfl⟩, Nat.zero_le _, wt.1, wt.2, wz.1, wz.2, s1, s2, Nat.zero_le _⟩
  · obtain rfl : c4 = .slice (some x) l c := by simpa using hcs
    simp only [if_true] at hz
    subst hy
    simp only [DataW.weights, Tryd.underlying22, strs, List.length_map, List.length_take, List.length_drop] at hw
    have s3 := reach47 (hw ((min l zs.length + (zs.length - l)) * Tryd.prog.bytesOf 9) (by simp))
    rw [show Tryd.prog.bytesOf 9 = 16 by kernel_rfl] at s3
    have hlen : (zs.take l).length = l := by rw [List.length_take]; omega
    refine ⟨⟨t, tag, par, z, zs.take l⟩, some x, c, by simp only [manV, hlen], fun h0 => ?_, by simp only [hlen]; exact hl, fun hx => (by cases hx), by omega, wt.1, wt.2, wz.1, wz.2, s1, s2, by simp only [hlen]; omega⟩
    simp only [hlen] at h0
    have hsp := World.cell?_spot (hcell 0 (by omega))
    have hsp' : x.spot = none := by
      unfold Addr.add at hsp; simpa using hsp
    have hc0 := hcell 0 (by omega)
    rw [spot_add x hsp'] at hc0
    refine ⟨x.block, x.off, ?_, (cell_lt hc0 : (⟨x.block, x.off + 0, none⟩ : Addr).block < _), fun j u hj => ?_⟩
    · obtain ⟨g, o, s⟩ := x
      simp only at hsp'
      subst hsp'; rfl
    · have hjl : j < (zs.take l).length := (List.getElem?_eq_some_iff.1 hj).1
      have hc := hcell j (by omega)
      rw [spot_add x hsp'] at hc
      rw [hc]
      rw [List.getElem?_take_of_lt (by omega)] at hj
      rw [List.getD, hj]; rfl
end

/-- the walk of ManifestUnlike, as its last text takes it -/
theorem unlike_card (a : Man) (v : Value) (b : Man) (u : Value) (w : World) (he : Env w) (ha : ManP w v a) (hb : ManP w u b) :
    Calls Tryd.prog 4 #[v, u] w fun e w' => e = .returned (.bool true) ∧ Below w.heap.size w w' := by
  obtain ⟨A, c, rfl, ha⟩ := ha
  obtain ⟨B, d, rfl, hb⟩ := hb
  exact unlike_all a b A B c d w he ha hb
end Go.Proofs.YtbjompcaekbjoaaDoor
