/- path.Is: a range over strings.SplitSeq. -/
import Derived.Test.YtaoejgnfoecpfaaDoorRc
import Derived.RangeFuncNested
import Derived.RangeFuncBound
import Derived.RangeFuncCalls
import Derived.RangeFuncLeaves
import Derived.Shelf.Abstract
import Derived.Shelf.RegionOpen
import Derived.WalkKit
import Derived.OwnWalkIn
import Derived.TacticsInMore
import Derived.LoopNIn
import Derived.LoopIn
namespace Go.Proofs.YtaoejgnfoecpfaaDoor
open Go.RowKit Go.Shelf
attribute [local go_sem] Oper.semAt_some

def slash : ByteArray := ⟨#[47]⟩
/-- are all parts names? -/
def allFrom : Nat → ByteArray → Bool
  | 0, r => nameOk r
  | f + 1, r => if Lib.indexB r slash = -1 then nameOk r else nameOk (r.extract 0 (Lib.indexB r slash).toNat) && allFrom f (r.extract ((Lib.indexB r slash).toNat + 1) r.size)
def isPath (s : ByteArray) : Bool := decide (s.size ≤ 200) && decide (Lib.countB s slash < 8) && allFrom s.size s
theorem allFrom_last (f : Nat) (r : ByteArray) (h : Lib.indexB r slash = -1) : allFrom f r = nameOk r := by
  cases f with
  | zero => rfl
  | succ f => simp only [allFrom]; rw [if_pos h]
theorem allFrom_cut (f : Nat) (r : ByteArray) (i : Nat) (h : Lib.indexB r slash = i) (hf : r.size ≤ f) (hi : i + 1 ≤ r.size) : ∃ g, allFrom f r = (nameOk (r.extract 0 i) && allFrom g (r.extract (i + 1) r.size)) ∧ (r.extract (i + 1) r.size).size ≤ g := by
  obtain ⟨g, rfl⟩ : ∃ g, f = g + 1 := ⟨f - 1, by omega⟩
  refine ⟨g, ?_, by rw [ByteArray.size_extract]; omega⟩
  simp only [allFrom]
  rw [if_neg (by omega), h]
  rfl

/-- the record of a loop that is ranged over a function -/
def recOf (a : Act) (ps : Array Tmp) (assign body : Code) (fn D : Nat) (st : LoopState) (pe : Option Code) : Loop := { state := st, pending := pe, fn := fn, tmps := a.tmps, params := ps, assign := assign, body := body, defers := D }
/-- the world in which the iterator begins -/
def begun (a : Act) (ps : Array Tmp) (assign body : Code) (fn : Nat) (w : World) : World := (w.alloc (.deferred (some []))).alloc (.loop (recOf a ps assign body fn w.heap.size .ready none))

theorem range_open {P : Program} {n : Nat} {g : Operand} {ps : Array Tmp} {assign body : Code} {Q : Exit → Act → World → Prop} {a : Act} {w : World} {gf : Nat} {lb : Array Value}
    (hg : a.eval g = .func (.func gf) #[] lb) (eg : ∀ args w, (callFunc gf args).run P w = .ok (.enter gf args) w)
    (h : ∀ fn, CallsIn Fence.wide (n - 1) P gf (#[.func (.yield (w.heap.size + 1)) #[] #[]] ++ lb) (begun a ps assign body fn w) (rangePost Fence.wide n P (w.heap.size + 1) Q { a with defers := [{ target := .collected w.heap.size, args := #[] }] ++ a.defers })) :
    (Code.rangeFunc g ps assign body).wpIn Fence.wide n P Q a w := by
  refine wpIn_rangeFunc fun fn hfn => ?_
  refine ⟨w.heap.size + 1, _, begun a ps assign body fn w, { target := .fn (.func gf) lb, args := #[.func (.yield (w.heap.size + 1)) #[] #[]] }, begun a ps assign body fn w, gf, _, begun a ps assign body fn w, run_enterLoop_outer _ _ _ _ _, ?_, fun _ _ => trivial, ?_, ?_, h fn⟩
  · simp only [resolve, hg]
    simp [go_sem]
  · simp [invoke, go_sem, eg]
  · intro hd; exact absurd hd (by simp [Fence.wide])
/-- what the iterator reads between two rounds -/
structure Feed (bs b bz : Nat) (r : ByteArray) (W : World) : Prop where
  len : r.size ≤ 4000000000
  max : ∃ m, W.cell? ⟨0, 0, none⟩ = some (.int .i64 m)
  sep : W.cell? ⟨bs, 0, none⟩ = some (.string slash)
  rest : W.cell? ⟨b, 0, none⟩ = some (.string r)
  free : W.frozen? ⟨b, 0, none⟩ = false
  save : W.cell? ⟨bz, 0, none⟩ = some (.int .i64 0)

/-- the rest, as it lies in the box -/
def restOf (b : Nat) (W : World) : ByteArray := match W.cell? ⟨b, 0, none⟩ with | some (.string r) => r | _ => ⟨#[]⟩

set_option maxRecDepth 100000 in
set_option maxHeartbeats 3200000 in
theorem parts_in (n : Nat) (hn : 1 ≤ n) (l bs b bz : Nat) (J : ByteArray → World → Prop) (Jx : World → Prop)
    (hJ : ∀ r W, J r W → Feed bs b bz r W)
    (hY : ∀ r W, J r W → Lib.indexB r slash = -1 → YieldAt Fence.wide (n - 1) Tryd.prog l #[.string r] W fun e W' => (e = .returned (.bool true) ∧ J r W' ∧ nameOk r = true) ∨ (e = .returned (.bool false) ∧ Jx W'))
    (hZ : ∀ r W (i : Nat), J r W → Lib.indexB r slash = i → i + 1 ≤ r.size → YieldAt Fence.wide (n - 1) Tryd.prog l #[.string (r.extract 0 i)] W fun e W' => (e = .returned (.bool true) ∧ J r W' ∧ nameOk (r.extract 0 i) = true) ∨ (e = .returned (.bool false) ∧ Jx W'))
    (hS : ∀ r W (i : Nat), J r W → Lib.indexB r slash = i → i + 1 ≤ r.size → nameOk (r.extract 0 i) = true → J (r.extract (i + 1) r.size) (W.setCell ⟨b, 0, none⟩ (.string (r.extract (i + 1) r.size))))
    (s : ByteArray) (W : World) (h0 : J s W) :
    CallsIn Fence.wide n Tryd.prog 118 #[.func (.yield l) #[] #[], .pointer (some ⟨bs, 0, none⟩), .pointer (some ⟨b, 0, none⟩), .pointer (some ⟨bz, 0, none⟩)] W fun e W' => (∃ v, e = .returned v) ∧
      ((∃ r, J r W' ∧ Lib.indexB r slash = -1 ∧ nameOk r = true) ∨ Jx W') := by
  refine callsIn_of_wp Tryd.func118 rfl trivial ?_ rfl
  simp only [Tryd.ntmps118, List.size_toArray, List.length_cons, List.length_nil, Nat.reduceAdd, Nat.reduceSub, Array.replicate_succ, Array.replicate_zero, List.push_toArray, List.append_toArray, List.nil_append, List.cons_append]
  have hc := (hJ s W h0).sep
  unfold slash at hc
  gi_wp2
  gi_loopw [7] (fun _ wr => ∃ r, J r wr) (fun _ wr => (restOf b wr).size)
  case atStart => exact ⟨s, h0⟩
  case round =>
    obtain ⟨r, hj⟩ := hrel
    obtain ⟨hlen, ⟨m, hm⟩, hsep, hrest, hfree, hsave⟩ := hJ r wr hj
    have hI := Tryd.strings_Index r slash m wr (by omega) hm
    have HR0 := Lib.hid (show restOf b wr = r by unfold restOf; rw [hrest])
    rcases Lib.indexB_cases r slash with hi | ⟨i, hi, hi2⟩
    · obtain ⟨fn, tmps, assign, body, hy, hR⟩ := hY r wr hj hi
      rw [show Lib.index r.data.toList slash.data.toList = -1 from hi] at hI
      unfold slash at hsep hI
      have HI := Lib.hid hI
      have HH := Lib.hid hi
      have HJ := Lib.hid hj
      have HC := Lib.hid hR
      clear hI hi hR hj
      gi_wp2
      refine ⟨trivial, (callsIn_wide.2 HI.out).mono ?_⟩
      rintro e w' ⟨rfl, rfl⟩
      gi_wp2
      refine HC.out.mono ?_
      rintro e W3 (⟨rfl, hJ3, hok⟩ | ⟨rfl, hx⟩)
      · have HJ3 := Lib.hid hJ3
        have HO := Lib.hid hok
        clear hJ3 hok
        gi_wp2
        go_end0
        exact ⟨⟨_, rfl⟩, .inl ⟨r, HJ3.out, HH.out, HO.out⟩⟩
      · have HX := Lib.hid hx
        clear hx
        gi_wp2
        go_end0
        exact ⟨⟨_, rfl⟩, .inr HX.out⟩
    · have hi3 : i + 1 ≤ r.size := hi2
      obtain ⟨fn, tmps, assign, body, hy, hR⟩ := hZ r wr i hj hi hi3
      rw [show Lib.index r.data.toList slash.data.toList = (i : Int) from hi] at hI
      unfold slash at hsep hI
      have HI := Lib.hid hI
      have HH := Lib.hid hi
      have HJ := Lib.hid hj
      have HC := Lib.hid hR
      have hi0 : (0 : Int) ≤ (i : Int) := by omega
      have hi1 : (i : Int) ≤ (r.size : Int) := by omega
      have hi4 : (i : Int) + 1 ≤ (r.size : Int) := by omega
      clear hI hi hR hj hi2
      gi_wp2
      refine ⟨trivial, (callsIn_wide.2 HI.out).mono ?_⟩
      rintro e w' ⟨rfl, rfl⟩
      gi_wp2
      refine HC.out.mono ?_
      rintro e W3 (⟨rfl, hJ3, hok⟩ | ⟨rfl, hx⟩)
      · obtain ⟨_, _, hsep3, hrest3, hfree3, hsave3⟩ := hJ r W3 hJ3
        unfold slash at hsep3
        have HJ4 := Lib.hid (hS r W3 i hJ3 HH.out hi3 hok)
        have HZ := Lib.hid (show (r.extract (i + 1) r.size).size = r.size - (i + 1) by rw [ByteArray.size_extract]; omega)
        clear hJ3 hok
        gi_wp2
        go_roundw
        case rel => exact ⟨_, HJ4.out⟩
        case measure =>
          have h1 := (hJ _ _ HJ4.out).rest
          have h2 : restOf b (W3.setCell ⟨b, 0, none⟩ (.string (r.extract (i + 1) r.size))) = r.extract (i + 1) r.size := by unfold restOf; rw [h1]
          rw [h2, HR0.out, HZ.out]; omega
      · have HX := Lib.hid hx
        clear hx
        gi_wp2
        refine bodyPost_ret (results_none rfl _ _ _) rfl ?_
        exact ⟨⟨_, rfl⟩, .inr HX.out⟩
end Go.Proofs.YtaoejgnfoecpfaaDoor
