/- Names: the program's, and the document's. path.Is: a range over strings.SplitSeq. Comparing part by part: slices.Compare. The document's Parts. The parts of a text: strings.Split's are the document's; comparing. The document's Compare. -/
import Derived.Test.YtaoejgnfoecpfaaDoorJu3
import Derived.Lib.OthersKept
import Derived.RangeFuncNested
import Derived.RangeFuncBound
import Derived.RangeFuncCalls
import Derived.RangeFuncLeaves
import Derived.Shelf.Abstract
import Derived.Shelf.RegionOpen
import Derived.WalkKit
import Derived.OwnWalkIn
import Derived.TacticsInMore
import Derived.LoopNIn
import Derived.LoopIn
import Derived.Test.YtaoejgnfoecpfaaDoorJu1
namespace Go.Proofs.YtaoejgnfoecpfaaDoor
set_option linter.unusedVariables false
set_option linter.unusedSimpArgs false
set_option linter.unusedSectionVars false
open Go.RowKit

def badN (s : ByteArray) (p : Nat) : Bool := decide ((Utf8.decode s p).1 < 32) || decide ((Utf8.decode s p).1 = 47) || decide ((Utf8.decode s p).1 = 127) || brokenB s p
/-- are all runes from a place on such as a name may have? -/
def nameFrom (s : ByteArray) : Nat → Nat → Bool
  | 0, _ => true
  | f + 1, p => if p < s.size then (if badN s p = true then false else nameFrom s f (p + (Utf8.decode s p).2)) else true
def nameOk (s : ByteArray) : Bool := decide (1 ≤ s.size) && decide (s ≠ ⟨#[46]⟩) && decide (s ≠ ⟨#[46, 46]⟩) && decide (s.size ≤ 60) && nameFrom s s.size 0
theorem nameFrom_end (s : ByteArray) (f p : Nat) (h : ¬ p < s.size) : nameFrom s f p = true := by
  cases f with
  | zero => rfl
  | succ f => simp [nameFrom, h]
theorem nameFrom_step (s : ByteArray) (f p : Nat) (h : p < s.size) (hf : s.size ≤ p + f) (hb : badN s p = false) : ∃ g, nameFrom s f p = nameFrom s g (p + (Utf8.decode s p).2) ∧ s.size ≤ p + (Utf8.decode s p).2 + g := by
  obtain ⟨g, rfl⟩ : ∃ g, f = g + 1 := ⟨f - 1, by omega⟩
  have := (decode_fits s p h).1
  exact ⟨g, by simp [nameFrom, h, hb], by omega⟩
theorem nameFrom_bad (s : ByteArray) (f p : Nat) (h : p < s.size) (hf : s.size ≤ p + f) (hb : badN s p = true) : nameFrom s f p = false := by
  obtain ⟨g, rfl⟩ : ∃ g, f = g + 1 := ⟨f - 1, by omega⟩
  simp [nameFrom, h, hb]
theorem list_ne {s : ByteArray} {l : List UInt8} (h : s ≠ ⟨l.toArray⟩) : (s.toList == l) = false := by
  have : ¬ s.toList = l := fun e => h (by
    rw [ba_toList] at e
    exact ByteArray.ext (by rw [← e]))
  simpa using this
theorem toList_nil {s : ByteArray} (h : 1 ≤ s.size) : s.toList.isEmpty = false := by
  rw [toList_isEmpty]
  exact decide_eq_false (by omega)
theorem dot_cases (s : ByteArray) : s.size = 0 ∨ s = ⟨#[46]⟩ ∨ s = ⟨#[46, 46]⟩ ∨ (1 ≤ s.size ∧ s ≠ ⟨#[46]⟩ ∧ s ≠ ⟨#[46, 46]⟩) := by
  by_cases h0 : s.size = 0
  · exact Or.inl h0
  · by_cases h1 : s = ⟨#[46]⟩
    · exact Or.inr (Or.inl h1)
    · by_cases h2 : s = ⟨#[46, 46]⟩
      · exact Or.inr (Or.inr (Or.inl h2))
      · exact Or.inr (Or.inr (Or.inr ⟨by omega, h1, h2⟩))
theorem size0 {s : ByteArray} (h : s.size = 0) : s = ⟨#[]⟩ := by
  apply ByteArray.ext
  exact Array.eq_empty_of_size_eq_zero h

set_option maxRecDepth 100000 in
set_option maxHeartbeats 3200000 in
theorem pname_any (s : ByteArray) (w : World) (he : Env w) (hs : s.size ≤ 1099511627776) :
    Calls Tryd.prog 63 #[.string s] w fun e w' => e = .returned (.bool (nameOk s)) ∧ Below w.heap.size w w' := by
  have HE := Lib.hid fun W (hb : Below w.heap.size w W) => he.below hb
  clear he
  rcases dot_cases s with h | h | h | ⟨h0, h1, h2⟩
  · have := size0 h
    subst this
    have HN := Lib.hid (show nameOk ⟨#[]⟩ = false by decide +kernel)
    go_enter Tryd.func63, Tryd.ntmps63
    go_wp2
    go_ret
    exact ⟨ret_bool HN.out.symm, Below.refl _ _⟩
  · subst h
    have HN := Lib.hid (show nameOk ⟨#[46]⟩ = false by decide +kernel)
    go_enter Tryd.func63, Tryd.ntmps63
    go_wp2
    go_ret
    exact ⟨ret_bool HN.out.symm, Below.refl _ _⟩
  · subst h
    have HN := Lib.hid (show nameOk ⟨#[46, 46]⟩ = false by decide +kernel)
    go_enter Tryd.func63, Tryd.ntmps63
    go_wp2
    go_ret
    exact ⟨ret_bool HN.out.symm, Below.refl _ _⟩
  · have hq0 := toList_nil h0
    have hq1 := list_ne (l := [46]) h1
    have hq2 := list_ne (l := [46, 46]) h2
    have e1 : nameOk s = (decide (s.size ≤ 60) && nameFrom s s.size 0) := by
      unfold nameOk
      rw [decide_eq_true h0, decide_eq_true h1, decide_eq_true h2]; simp
    have H12 := Lib.hid (And.intro h1 h2)
    clear h1 h2
    by_cases hz : s.size ≤ 60
    · rw [decide_eq_true hz, Bool.true_and] at e1
      have E1 := Lib.hid e1
      clear e1
      go_enter Tryd.func63, Tryd.ntmps63
      go_wp2
      go_loopw [3] (fun _ wr => ∃ (p f : Nat), wr.heap[w.heap.size]? = some (.stringIter s p) ∧ Below w.heap.size w wr ∧ nameFrom s f p = nameFrom s s.size 0 ∧ s.size ≤ p + f) (fun _ wr => s.size - wr.iterPos w.heap.size)
      case atStart => exact ⟨0, s.size, World.iter_heap w s 0, (Below.refl _ w).alloc (Nat.le_refl _) _, rfl, by omega⟩
      case round =>
        obtain ⟨p, f, hit, hb, hn, hf⟩ := hrel
        have hpos : wr.iterPos w.heap.size = p := by unfold World.iterPos; rw [hit]
        have HPOS := Lib.hid hpos
        have HIT := Lib.hid hit
        have HN := Lib.hid hn
        clear hn hpos
        by_cases hp : p < s.size
        · have hnx : ∀ ty, (Instr.next (.pointer (some ⟨w.heap.size, 0, none⟩)) true ty).run Tryd.prog wr = _ := fun ty => Lib.run_next_any_at wr w.heap.size s p ty HIT.out hp
          have hfit := decode_fits s p hp
          have HW1 := Lib.hid (Lib.iterAt_heap wr w.heap.size s p (p + (Utf8.decode s p).2) hit)
          have HB1 := Lib.hid (Lib.below_iterAt hb (Nat.le_refl _) s (p + (Utf8.decode s p).2))
          have HBR := Lib.hid fun W (h : Env W) => broken_any s p W h hs hp
          have hbad := nameFrom_bad s f p hp hf
          have hstep := nameFrom_step s f p hp hf
          have hbN : badN s p = (decide ((Utf8.decode s p).1 < 32) || decide ((Utf8.decode s p).1 = 47) || decide ((Utf8.decode s p).1 = 127) || brokenB s p) := rfl
          have HBAD := Lib.hid hbad
          have HSTEP := Lib.hid hstep
          have HBN := Lib.hid hbN
          clear hbad hstep hbN hit hb
          obtain ⟨f1, f2, f3, f4⟩ := hfit
          generalize (Utf8.decode s p).1 = c at *
          generalize (Utf8.decode s p).2 = n at *
          have HE2 := Lib.hid (HE.out _ HB1.out)
          generalize hW2 : wr.iterAt w.heap.size s (p + n) = W2 at *
          have HW2 := Lib.hid hW2
          clear hW2
          rcases (by omega : (c : Int) < 32 ∨ ((32 : Int) ≤ (c : Int) ∧ c = 47) ∨ ((32 : Int) ≤ (c : Int) ∧ c ≠ 47 ∧ c = 127) ∨ ((32 : Int) ≤ (c : Int) ∧ c ≠ 47 ∧ c ≠ 127)) with g | ⟨g1, g2⟩ | ⟨g1, g2, g3⟩ | ⟨g1, g2, g3⟩
          · have HF := Lib.hid (HBAD.out (by rw [HBN.out, decide_eq_true (show c < 32 by omega)]; rfl))
            go_wp2
            go_ret
            exact ⟨ret_bool (by rw [E1.out, ← HN.out, HF.out]), HB1.out⟩
          · have HF := Lib.hid (HBAD.out (by rw [HBN.out, decide_eq_true g2]; simp))
            subst g2
            go_wp2
            go_ret
            exact ⟨ret_bool (by rw [E1.out, ← HN.out, HF.out]), HB1.out⟩
          · have HF := Lib.hid (HBAD.out (by rw [HBN.out, decide_eq_true g3]; simp))
            subst g3
            go_wp2
            go_ret
            exact ⟨ret_bool (by rw [E1.out, ← HN.out, HF.out]), HB1.out⟩
          · have q1 : ((c : Int) == 47) = false := by simp; omega
            have q2 : ((c : Int) == 127) = false := by simp; omega
            have HBB := Lib.hid (show badN s p = brokenB s p by rw [HBN.out, decide_eq_false (show ¬ c < 32 by omega), decide_eq_false g2, decide_eq_false g3]; rfl)
            clear g2 g3
            go_wp2_with fail
            refine (HBR.out _ HE2.out).mono ?_
            rintro e w4 ⟨rfl, hb4⟩
            have HB4 := Lib.hid hb4
            clear hb4 HBR
            cases hbr : brokenB s p with
            | true =>
              have HF := Lib.hid (HBAD.out (by rw [HBB.out, hbr]))
              clear hbr
              go_wp2
              go_ret
              exact ⟨ret_bool (by rw [E1.out, ← HN.out, HF.out]), HB1.out.trans (HB4.out.mono HB1.out.size)⟩
            | false =>
              obtain ⟨g, e2, e3⟩ := HSTEP.out (by rw [HBB.out, hbr])
              have HG := Lib.hid e2
              have HIT4 := Lib.hid ((HB4.out.block w.heap.size (Array.getElem?_eq_some_iff.1 HW1.out).1).trans HW1.out)
              clear hbr e2
              go_wp2
              go_roundw
              case rel => exact ⟨p + n, g, HIT4.out, HB1.out.trans (HB4.out.mono HB1.out.size), HG.out.symm.trans HN.out, e3⟩
              case measure =>
                have : w4.iterPos w.heap.size = p + n := by unfold World.iterPos; rw [HIT4.out]
                rw [this, HPOS.out]; omega
        · have hnx : ∀ ty, (Instr.next (.pointer (some ⟨w.heap.size, 0, none⟩)) true ty).run Tryd.prog wr = _ := fun ty => Lib.run_next_end_at wr w.heap.size s p ty HIT.out hp
          have HF := Lib.hid (nameFrom_end s f p hp)
          have HB := Lib.hid hb
          clear hb hit
          go_wp2
          go_ret
          exact ⟨ret_bool (by rw [E1.out, ← HN.out, HF.out]), HB.out⟩
    · rw [decide_eq_false hz, Bool.false_and] at e1
      have E1 := Lib.hid e1
      clear e1
      go_enter Tryd.func63, Tryd.ntmps63
      go_wp2
      go_ret
      exact ⟨ret_bool E1.out.symm, Below.refl _ _⟩
end Go.Proofs.YtaoejgnfoecpfaaDoor
namespace Go.Proofs.YtaoejgnfoecpfaaDoor
set_option linter.unusedVariables false
set_option linter.unusedSimpArgs false
set_option linter.unusedSectionVars false
open Go.RowKit Go.Shelf
attribute [local go_sem] Oper.semAt_some

def slash : ByteArray := ⟨#[47]⟩
/-- are all parts names? -/
def allFrom : Nat → ByteArray → Bool
  | 0, r => nameOk r
  | f + 1, r => if Lib.indexB r slash = -1 then nameOk r else nameOk (r.extract 0 (Lib.indexB r slash).toNat) && allFrom f (r.extract ((Lib.indexB r slash).toNat + 1) r.size)
def isPath (s : ByteArray) : Bool := decide (s.size ≤ 200) && decide (Lib.countB s slash < 8) && allFrom s.size s
theorem allFrom_last (f : Nat) (r : ByteArray) (h : Lib.indexB r slash = -1) : allFrom f r = nameOk r := by
  cases f with
  | zero => rfl
  | succ f => simp only [allFrom]; rw [if_pos h]
theorem allFrom_cut (f : Nat) (r : ByteArray) (i : Nat) (h : Lib.indexB r slash = i) (hf : r.size ≤ f) (hi : i + 1 ≤ r.size) : ∃ g, allFrom f r = (nameOk (r.extract 0 i) && allFrom g (r.extract (i + 1) r.size)) ∧ (r.extract (i + 1) r.size).size ≤ g := by
  obtain ⟨g, rfl⟩ : ∃ g, f = g + 1 := ⟨f - 1, by omega⟩
  refine ⟨g, ?_, by rw [ByteArray.size_extract]; omega⟩
  simp only [allFrom]
  rw [if_neg (by omega), h]
  rfl

/-- the record of a loop that is ranged over a function -/
def recOf (a : Act) (ps : Array Tmp) (assign body : Code) (fn D : Nat) (st : LoopState) (pe : Option Code) : Loop := { state := st, pending := pe, fn := fn, tmps := a.tmps, params := ps, assign := assign, body := body, defers := D }
/-- the world in which the iterator begins -/
def begun (a : Act) (ps : Array Tmp) (assign body : Code) (fn : Nat) (w : World) : World := (w.alloc (.deferred (some []))).alloc (.loop (recOf a ps assign body fn w.heap.size .ready none))

theorem range_open {P : Program} {n : Nat} {g : Operand} {ps : Array Tmp} {assign body : Code} {Q : Exit → Act → World → Prop} {a : Act} {w : World} {gf : Nat} {lb : Array Value}
    (hg : a.eval g = .func (.func gf) #[] lb) (eg : ∀ args w, (callFunc gf args).run P w = .ok (.enter gf args) w)
    (h : ∀ fn, CallsIn Fence.wide (n - 1) P gf (#[.func (.yield (w.heap.size + 1)) #[] #[]] ++ lb) (begun a ps assign body fn w) (rangePost Fence.wide n P (w.heap.size + 1) Q { a with defers := [{ target := .collected w.heap.size, args := #[] }] ++ a.defers })) :
    (Code.rangeFunc g ps assign body).wpIn Fence.wide n P Q a w := by
  refine wpIn_rangeFunc fun fn hfn => ?_
  refine ⟨w.heap.size + 1, _, begun a ps assign body fn w, { target := .fn (.func gf) lb, args := #[.func (.yield (w.heap.size + 1)) #[] #[]] }, begun a ps assign body fn w, gf, _, begun a ps assign body fn w, run_enterLoop_outer _ _ _ _ _, ?_, fun _ _ => trivial, ?_, ?_, h fn⟩
  · simp only [resolve, hg]
    simp [go_sem]
  · simp [invoke, go_sem, eg]
  · intro hd; exact absurd hd (by simp [Fence.wide])
/-- what the iterator reads between two rounds -/
structure Feed (bs b bz : Nat) (r : ByteArray) (W : World) : Prop where
  len : r.size ≤ 4000000000
  max : ∃ m, W.cell? ⟨0, 0, none⟩ = some (.int .i64 m)
  sep : W.cell? ⟨bs, 0, none⟩ = some (.string slash)
  rest : W.cell? ⟨b, 0, none⟩ = some (.string r)
  free : W.frozen? ⟨b, 0, none⟩ = false
  save : W.cell? ⟨bz, 0, none⟩ = some (.int .i64 0)

/-- the rest, as it lies in the box -/
def restOf (b : Nat) (W : World) : ByteArray := match W.cell? ⟨b, 0, none⟩ with | some (.string r) => r | _ => ⟨#[]⟩

set_option maxRecDepth 100000 in
set_option maxHeartbeats 3200000 in
theorem parts_in (n : Nat) (hn : 1 ≤ n) (l bs b bz : Nat) (J : ByteArray → World → Prop) (Jx : World → Prop)
    (hJ : ∀ r W, J r W → Feed bs b bz r W)
    (hY : ∀ r W, J r W → Lib.indexB r slash = -1 → YieldAt Fence.wide (n - 1) Tryd.prog l #[.string r] W fun e W' => (e = .returned (.bool true) ∧ J r W' ∧ nameOk r = true) ∨ (e = .returned (.bool false) ∧ Jx W'))
    (hZ : ∀ r W (i : Nat), J r W → Lib.indexB r slash = i → i + 1 ≤ r.size → YieldAt Fence.wide (n - 1) Tryd.prog l #[.string (r.extract 0 i)] W fun e W' => (e = .returned (.bool true) ∧ J r W' ∧ nameOk (r.extract 0 i) = true) ∨ (e = .returned (.bool false) ∧ Jx W'))
    (hS : ∀ r W (i : Nat), J r W → Lib.indexB r slash = i → i + 1 ≤ r.size → nameOk (r.extract 0 i) = true → J (r.extract (i + 1) r.size) (W.setCell ⟨b, 0, none⟩ (.string (r.extract (i + 1) r.size))))
    (s : ByteArray) (W : World) (h0 : J s W) :
    CallsIn Fence.wide n Tryd.prog 118 #[.func (.yield l) #[] #[], .pointer (some ⟨bs, 0, none⟩), .pointer (some ⟨b, 0, none⟩), .pointer (some ⟨bz, 0, none⟩)] W fun e W' => (∃ v, e = .returned v) ∧
      ((∃ r, J r W' ∧ Lib.indexB r slash = -1 ∧ nameOk r = true) ∨ Jx W') := by
  refine callsIn_of_wp Tryd.func118 rfl trivial ?_ rfl
  simp only [Tryd.ntmps118, List.size_toArray, List.length_cons, List.length_nil, Nat.reduceAdd, Nat.reduceSub, Array.replicate_succ, Array.replicate_zero, List.push_toArray, List.append_toArray, List.nil_append, List.cons_append]
  have hc := (hJ s W h0).sep
  unfold slash at hc
  gi_wp2
  gi_loopw [7] (fun _ wr => ∃ r, J r wr) (fun _ wr => (restOf b wr).size)
  case atStart => exact ⟨s, h0⟩
  case round =>
    obtain ⟨r, hj⟩ := hrel
    obtain ⟨hlen, ⟨m, hm⟩, hsep, hrest, hfree, hsave⟩ := hJ r wr hj
    have hI := Tryd.strings_Index r slash m wr (by omega) hm
    have HR0 := Lib.hid (show restOf b wr = r by unfold restOf; rw [hrest])
    rcases Lib.indexB_cases r slash with hi | ⟨i, hi, hi2⟩
    · obtain ⟨fn, tmps, assign, body, hy, hR⟩ := hY r wr hj hi
      rw [show Lib.index r.data.toList slash.data.toList = -1 from hi] at hI
      unfold slash at hsep hI
      have HI := Lib.hid hI
      have HH := Lib.hid hi
      have HJ := Lib.hid hj
      have HC := Lib.hid hR
      clear hI hi hR hj
      gi_wp2
      refine ⟨trivial, (callsIn_wide.2 HI.out).mono ?_⟩
      rintro e w' ⟨rfl, rfl⟩
      gi_wp2
      refine HC.out.mono ?_
      rintro e W3 (⟨rfl, hJ3, hok⟩ | ⟨rfl, hx⟩)
      · have HJ3 := Lib.hid hJ3
        have HO := Lib.hid hok
        clear hJ3 hok
        gi_wp2
        go_end0
        exact ⟨⟨_, rfl⟩, .inl ⟨r, HJ3.out, HH.out, HO.out⟩⟩
      · have HX := Lib.hid hx
        clear hx
        gi_wp2
        go_end0
        exact ⟨⟨_, rfl⟩, .inr HX.out⟩
    · have hi3 : i + 1 ≤ r.size := hi2
      obtain ⟨fn, tmps, assign, body, hy, hR⟩ := hZ r wr i hj hi hi3
      rw [show Lib.index r.data.toList slash.data.toList = (i : Int) from hi] at hI
      unfold slash at hsep hI
      have HI := Lib.hid hI
      have HH := Lib.hid hi
      have HJ := Lib.hid hj
      have HC := Lib.hid hR
      have hi0 : (0 : Int) ≤ (i : Int) := by omega
      have hi1 : (i : Int) ≤ (r.size : Int) := by omega
      have hi4 : (i : Int) + 1 ≤ (r.size : Int) := by omega
      clear hI hi hR hj hi2
      gi_wp2
      refine ⟨trivial, (callsIn_wide.2 HI.out).mono ?_⟩
      rintro e w' ⟨rfl, rfl⟩
      gi_wp2
      refine HC.out.mono ?_
      rintro e W3 (⟨rfl, hJ3, hok⟩ | ⟨rfl, hx⟩)
      · obtain ⟨_, _, hsep3, hrest3, hfree3, hsave3⟩ := hJ r W3 hJ3
        unfold slash at hsep3
        have HJ4 := Lib.hid (hS r W3 i hJ3 HH.out hi3 hok)
        have HZ := Lib.hid (show (r.extract (i + 1) r.size).size = r.size - (i + 1) by rw [ByteArray.size_extract]; omega)
        clear hJ3 hok
        gi_wp2
        go_roundw
        case rel => exact ⟨_, HJ4.out⟩
        case measure =>
          have h1 := (hJ _ _ HJ4.out).rest
          have h2 : restOf b (W3.setCell ⟨b, 0, none⟩ (.string (r.extract (i + 1) r.size))) = r.extract (i + 1) r.size := by unfold restOf; rw [h1]
          rw [h2, HR0.out, HZ.out]; omega
      · have HX := Lib.hid hx
        clear hx
        gi_wp2
        refine bodyPost_ret (results_none rfl _ _ _) rfl ?_
        exact ⟨⟨_, rfl⟩, .inr HX.out⟩
end Go.Proofs.YtaoejgnfoecpfaaDoor
namespace Go.Proofs.YtaoejgnfoecpfaaDoor
set_option linter.unusedVariables false
set_option linter.unusedSimpArgs false
set_option linter.unusedSectionVars false
open Go.RowKit

/-- does a stand before b? -/
def lessS (a b : ByteArray) : Bool := Op.bytesLess a.toList b.toList
def sCmp (a b : ByteArray) : Int := if lessS a b = true then -1 else if a.toList = b.toList then 0 else 1
def cmpL : List ByteArray → List ByteArray → Int
  | [], [] => 0
  | [], _ :: _ => -1
  | _ :: _, [] => 1
  | x :: xs, y :: ys => if sCmp x y = 0 then cmpL xs ys else sCmp x y
/-- texts in a row of cells -/
def StrRow (W : World) (b : Nat) (xs : List ByteArray) : Prop := ∀ (j : Nat) (u : ByteArray), xs[j]? = some u → W.cell? ⟨b, j, none⟩ = some (.string u)

set_option maxRecDepth 100000 in
set_option maxHeartbeats 400000 in
theorem nan_any (a : ByteArray) (w : World) : Calls Tryd.prog 147 #[.string a] w fun e w' => e = .returned (.bool false) ∧ w = w' := by
  go_enter Tryd.func147, Tryd.ntmps147
  go_wp2
  go_ret
  exact ⟨ret_bool (by simp), rfl⟩
set_option maxRecDepth 100000 in
set_option maxHeartbeats 400000 in
theorem cmp_any (a b : ByteArray) (w : World) : Calls Tryd.prog 127 #[.string a, .string b] w fun e w' => e = .returned (.int .i64 (sCmp a b)) ∧ w = w' := by
  go_enter Tryd.func127, Tryd.ntmps127
  go_wp2_with fail
  refine (nan_any a w).mono ?_
  rintro e w' ⟨rfl, rfl⟩
  go_wp2_with fail
  refine (nan_any b _).mono ?_
  rintro e w' ⟨rfl, rfl⟩
  cases h1 : Op.bytesLess a.toList b.toList with
  | true =>
    have HS := Lib.hid (show sCmp a b = -1 by unfold sCmp lessS; rw [if_pos h1])
    go_wp2
    go_ret
    exact ⟨ret_int HS.out.symm, rfl⟩
  | false =>
    cases h2 : a.toList == b.toList with
    | true =>
      have HS := Lib.hid (show sCmp a b = 0 by unfold sCmp lessS; rw [if_neg (by rw [h1]; simp), if_pos (eq_of_beq h2)])
      go_wp2
      go_ret
      exact ⟨ret_int HS.out.symm, rfl⟩
    | false =>
      have HS := Lib.hid (show sCmp a b = 1 by unfold sCmp lessS; rw [if_neg (by rw [h1]; simp), if_neg (fun e => by rw [e] at h2; simp at h2)])
      go_wp2
      go_ret
      exact ⟨ret_int HS.out.symm, rfl⟩
theorem sCmp_range (a b : ByteArray) : sCmp a b = -1 ∨ sCmp a b = 0 ∨ sCmp a b = 1 := by
  unfold sCmp
  split
  · exact Or.inl rfl
  · split
    · exact Or.inr (Or.inl rfl)
    · exact Or.inr (Or.inr rfl)
theorem drop_some {α : Type} {l : List α} {k : Nat} (h : k < l.length) : l.drop k = l[k] :: l.drop (k + 1) := List.drop_eq_getElem_cons h

set_option maxRecDepth 100000 in
set_option maxHeartbeats 1600000 in
theorem slcmp_any (xs ys : List ByteArray) (bx by' cx cy : Nat) (w : World) (hx : StrRow w bx xs) (hy : StrRow w by' ys) (hlx : xs.length ≤ 1099511627776) (_hly : ys.length ≤ 1099511627776) :
    Calls Tryd.prog 115 #[.slice (some ⟨bx, 0, none⟩) xs.length cx, .slice (some ⟨by', 0, none⟩) ys.length cy] w fun e w' => e = .returned (.int .i64 (cmpL xs ys)) ∧ w = w' := by
  have HX := Lib.hid hx
  have HY := Lib.hid hy
  clear hx hy
  go_enter Tryd.func115, Tryd.ntmps115
  go_wp2
  go_loop [11] (fun t => ∃ k : Nat, t = .int .i64 (k : Nat) ∧ k ≤ xs.length ∧ k ≤ ys.length ∧ cmpL (xs.drop k) (ys.drop k) = cmpL xs ys) (fun t => xs.length - (intOf t).toNat)
  case atStart => exact ⟨0, rfl, Nat.zero_le _, Nat.zero_le _, rfl⟩
  case round =>
    obtain ⟨k, rfl, hkx, hky, hn⟩ := hrel
    have HN := Lib.hid hn
    clear hn
    by_cases h1 : k < xs.length
    · have hcx := HX.out k xs[k] (List.getElem?_eq_getElem h1)
      have HDX := Lib.hid (drop_some h1)
      generalize xs[k] = x at *
      by_cases h2 : k < ys.length
      · have hcy := HY.out k ys[k] (List.getElem?_eq_getElem h2)
        have HDY := Lib.hid (drop_some h2)
        generalize ys[k] = y at *
        have HC := Lib.hid (cmp_any x y w)
        have hr := sCmp_range x y
        have HD := Lib.hid (show cmpL (x :: xs.drop (k + 1)) (y :: ys.drop (k + 1)) = if sCmp x y = 0 then cmpL (xs.drop (k + 1)) (ys.drop (k + 1)) else sCmp x y from rfl)
        generalize sCmp x y = q at *
        go_wp2_with fail
        refine HC.out.mono ?_
        rintro e w4 ⟨rfl, rfl⟩
        by_cases hq : q = 0
        · have HQ := Lib.hid hq
          go_wp2
          go_round
          case rel => exact ⟨k + 1, by go_num, by omega, by omega, by rw [← HN.out, HDX.out, HDY.out, HD.out, if_pos HQ.out]⟩
          case measure => simp [intOf]; omega
        · have HQ := Lib.hid hq
          have hq2 : (q != 0) = true := by simp; exact hq
          clear hq hr
          go_wp2
          go_ret
          exact ⟨ret_int (by rw [← HN.out, HDX.out, HDY.out, HD.out, if_neg HQ.out]), rfl⟩
      · have HF := Lib.hid (show ys.drop k = [] from List.drop_of_length_le (by omega))
        go_wp2
        go_ret
        exact ⟨ret_int (by rw [← HN.out, HDX.out, HF.out]; rfl), rfl⟩
    · have HF := Lib.hid (show xs.drop k = [] from List.drop_of_length_le (by omega))
      have hke : k = xs.length := by omega
      by_cases h2 : k < ys.length
      · have HDY := Lib.hid (drop_some h2)
        generalize ys[k] = y at *
        go_wp2
        go_ret
        exact ⟨ret_int (by rw [← HN.out, HF.out, HDY.out]; rfl), rfl⟩
      · have HG := Lib.hid (show ys.drop k = [] from List.drop_of_length_le (by omega))
        go_wp2
        go_ret
        exact ⟨ret_int (by rw [← HN.out, HF.out, HG.out]; rfl), rfl⟩
end Go.Proofs.YtaoejgnfoecpfaaDoor
namespace Go.Proofs.YtaoejgnfoecpfaaDoor
set_option linter.unusedVariables false
set_option linter.unusedSimpArgs false
set_option linter.unusedSectionVars false
open Go.RowKit

/-- cut at each slash -/
def splitL : List UInt8 → List (List UInt8)
  | [] => [[]]
  | c :: r => if c = 47 then [] :: splitL r else match splitL r with
    | h :: t => (c :: h) :: t
    | [] => [[c]]
/-- the first part lengthened in front -/
def headApp (l : List UInt8) : List (List UInt8) → List (List UInt8)
  | h :: t => (l ++ h) :: t
  | [] => [l]
theorem splitL_ne (l : List UInt8) : splitL l ≠ [] := by
  cases l with
  | nil => simp [splitL]
  | cons c r =>
    unfold splitL
    split
    · simp
    · split <;> simp
theorem splitL_slash (r : List UInt8) : splitL (47 :: r) = [] :: splitL r := by simp [splitL]
theorem splitL_other {c : UInt8} (h : c ≠ 47) (r : List UInt8) : splitL (c :: r) = headApp [c] (splitL r) := by
  simp only [splitL]
  rw [if_neg h]
  have := splitL_ne r
  cases hs : splitL r with
  | nil => exact absurd hs this
  | cons a t => rfl
theorem headApp_app (l m : List UInt8) {x : List (List UInt8)} (h : x ≠ []) : headApp (l ++ m) x = headApp l (headApp m x) := by
  cases x with
  | nil => exact absurd rfl h
  | cons a t => simp [headApp]
def strB (l : List UInt8) : ByteArray := ⟨l.toArray⟩
def partsV (ps : List (List UInt8)) : List Value := ps.map fun p => .string (strB p)
theorem partsV_set (done : List (List UInt8)) (cur nxt : List UInt8) : (partsV (done ++ [cur])).set done.length (.string (strB nxt)) = partsV (done ++ [nxt]) := by
  simp [partsV, List.set_append_right]
theorem strB_snoc (s : ByteArray) (cur : List UInt8) (k : Nat) (h : k < s.size) : strB cur ++ s.extract k (k + 1) = strB (cur ++ [s[k]]) := by
  apply ByteArray.ext
  have e : (s.extract k (k + 1)).data.toList = [s[k]] := by
    have h2 : s.data.toList[k]? = some s[k] := by rw [List.getElem?_eq_getElem (by simpa using h)]; rfl
    simp only [ByteArray.data_extract, Array.toList_extract]
    rw [List.extract_eq_take_drop]
    rw [List.drop_eq_getElem_cons (by simpa using h)]
    simp
    rfl
  rw [ByteArray.data_append]
  apply Array.toList_inj.1
  rw [Array.toList_append, e]
  simp [strB]
def partsR (s : ByteArray) : List (List UInt8) := splitL s.data.toList
theorem infoStr : (Tryd.prog.info? 9).map (fun i => (i.zero, i.size, i.bytes)) = some (some (.string ⟨#[]⟩), 1, 16) := by kernel_rfl

set_option maxRecDepth 100000 in
set_option maxHeartbeats 800000 in
theorem parts_any (s : ByteArray) (w : World) (hs : s.size ≤ 1000000) :
    Calls Tryd.prog 114 #[.string s] w fun e w' => ∃ g cap, e = .returned (.slice (some ⟨g, 0, none⟩) (partsR s).length cap) ∧ w'.ownsRow w.heap.size 9 1 (.slice (some ⟨g, 0, none⟩) (partsR s).length cap) (partsR s).length (partsV (partsR s)) ∧ Below w.heap.size w w' := by
  go_enter Tryd.func114, Tryd.ntmps114
  go_wp2
  go_loopw [3, 4] (fun v i wr => ∃ (g cap k : Nat) (done : List (List UInt8)) (cur : List UInt8), v = .slice (some ⟨g, 0, none⟩) (done.length + 1 : Nat) cap ∧ i = .int .i64 (k : Nat) ∧ k ≤ s.size ∧ wr.ownsRow w.heap.size 9 1 (.slice (some ⟨g, 0, none⟩) (done.length + 1) cap) (done.length + 1) (partsV (done ++ [cur])) ∧ Below w.heap.size w wr ∧ done ++ headApp cur (splitL (s.data.toList.drop k)) = partsR s ∧ done.length ≤ k ∧ cur.length ≤ k) (fun _ i _ => s.size - (intOf i).toNat)
  case atStart =>
    refine ⟨w.heap.size, 1, 0, [], [], rfl, rfl, by omega, ?_, (Below.refl _ w).alloc (Nat.le_refl _) _, ?_, by simp, by simp⟩
    · exact World.ownsRow_lit w #[.string ⟨#[]⟩] 1 (Nat.le_refl _) (by decide) rfl
    · have := splitL_ne s.data.toList
      unfold partsR
      cases hq : splitL s.data.toList with
      | nil => exact absurd hq this
      | cons c r => simp [headApp, hq]
  case round =>
    obtain ⟨g, cap, k, done, cur, rfl, rfl, hk, hown, hb, hn, hd, hcl⟩ := hrel
    have HN := Lib.hid hn
    have HOWN := Lib.hid hown
    have hsz := hb.size
    clear hn
    by_cases hlt : k < s.size
    · have HDR := Lib.hid (show s.data.toList.drop k = s[k] :: s.data.toList.drop (k + 1) from List.drop_eq_getElem_cons (by simpa using hlt))
      by_cases h47 : s[k] = 47
      · have hq : (s[k].toNat : Int) = 47 := by rw [h47]; rfl
        go_wp2_with (at_builtin; refine wpList_app1 rfl _ _ 50 rfl w.heap.size 9 Tryd.underlying50 infoStr rfl (by decide) _ _ _ rfl hown _ rfl rfl (oneCell_string _) ?_ ?_ ?_ ?_; omega; omega; omega; intro g1 cap1 w5 hown' hgr hbw _)
        go_roundw
        case rel =>
          refine ⟨g1, cap1, k + 1, done ++ [cur], [], by simp, by go_num, by omega, ?_, hb.trans hbw, ?_, by simp; omega, by simp⟩
          · have e : partsV ((done ++ [cur]) ++ [[]]) = partsV (done ++ [cur]) ++ [.string ⟨#[]⟩] := by simp [partsV, strB]
            rw [e]
            simpa using hown'
          · rw [← HN.out, HDR.out, h47, splitL_slash]
            have := splitL_ne (s.data.toList.drop (k + 1))
            cases hq : splitL (s.data.toList.drop (k + 1)) with
            | nil => exact absurd hq this
            | cons c r => simp [headApp]
        case measure => simp [intOf]; omega
      · have hq : ¬ (s[k].toNat : Int) = 47 := by
          intro e
          apply h47
          apply UInt8.toNat_inj.1
          have : s[k].toNat = 47 := by omega
          rw [this]; rfl
        have hcell := hown.cellAt done.length (by omega)
        have hfz := hown.frozenAt done.length
        simp only [partsV, List.map_append, List.map_cons, List.map_nil] at hcell
        rw [List.getElem?_append_right (by simp)] at hcell
        simp only [List.length_map, Nat.sub_self, List.getElem?_cons_zero] at hcell
        have hst := hown.stored done.length (.string (strB (cur ++ [s[k]])))
        have HST := Lib.hid hst
        have hw1 : IntKind.i64.wrap ((done.length : Int) + 1 - 1) = (done.length : Int) := by rw [show (done.length : Int) + 1 - 1 = done.length by omega]; exact IntWalk.i64_in _ (by omega)
        have hw2 : IntKind.i64.wrap ((k : Int) + 1) = (k : Int) + 1 := IntWalk.i64_in _ (by omega)
        have hw3 : ((k : Int) + 1).toNat = k + 1 := by omega
        have hw4 : ((k : Int)).toNat = k := by omega
        have hw5 : ((done.length : Int)).toNat = done.length := by omega
        have hk0 : (0 : Int) ≤ (k : Int) := by omega
        have hk1 : (k : Int) + 1 ≤ (s.size : Int) := by omega
        have hcs : (strB cur).size = cur.length := rfl
        have hex : (s.extract k (k + 1)).size = 1 := by rw [ByteArray.size_extract]; omega
        have hcz : (strB cur).size + (s.extract k (k + 1)).size ≤ 4000000 := by omega
        clear hst hown
        go_upto_region 7 with fail
        go_region
        go_wp2
        go_roundw
        case rel =>
          have e : strB cur ++ s.extract k (k + 1) = strB (cur ++ [s[k]]) := strB_snoc s cur k hlt
          rw [e]
          refine ⟨g, cap, k + 1, done, cur ++ [s[k]], rfl, by go_num, by omega, ?_, ?_, ?_, by omega, by simp; omega⟩
          · have := HST.out.1
            rw [partsV_set] at this
            exact this.drew
          · exact (hb.grown HST.out.2 hsz (fun j hj => by cases hj; exact (HOWN.out.lt g rfl).1)).drew
          · rw [← HN.out, HDR.out, splitL_other h47, headApp_app _ _ (splitL_ne _)]
        case measure => simp [intOf]; omega
    · have hke : k = s.size := by omega
      have HF := Lib.hid (show s.data.toList.drop k = [] from List.drop_of_length_le (by simp; omega))
      have HE : done ++ [cur] = partsR s := by rw [← HN.out, HF.out]; simp [splitL, headApp]
      have HL := Lib.hid (show done.length + 1 = (partsR s).length by rw [← HE]; simp)
      rw [HE] at hown
      have HO := Lib.hid hown
      clear hown HE
      go_wp2
      go_ret
      refine ⟨g, cap, ?_, ?_, hb⟩
      · rw [← HL.out]; rfl
      · rw [← HL.out]; exact HO.out
end Go.Proofs.YtaoejgnfoecpfaaDoor
namespace Go.Proofs.YtaoejgnfoecpfaaDoor
set_option linter.unusedVariables false
set_option linter.unusedSimpArgs false
set_option linter.unusedSectionVars false
open Go.RowKit

theorem idx_none : ∀ l : List UInt8, Lib.index l [47] = -1 → splitL l = [l]
  | [], _ => rfl
  | b :: l, h => by
    have hb : b ≠ 47 := by
      rintro rfl
      simp [Lib.index, List.isPrefixOf] at h
    have hp : ([47] : List UInt8).isPrefixOf (b :: l) = false := by simp [List.isPrefixOf]; exact fun e => hb e.symm
    have hl : Lib.index l [47] = -1 := by
      unfold Lib.index at h
      rw [hp] at h
      by_cases hq : Lib.index l [47] = -1
      · exact hq
      · have := Lib.index_ge l [47]
        simp [hq] at h
        omega
    rw [splitL_other hb, idx_none l hl]
    rfl
theorem idx_some : ∀ (l : List UInt8) (i : Nat), Lib.index l [47] = i → splitL l = l.take i :: splitL (l.drop (i + 1))
  | [], i, h => by
    exfalso
    simp [Lib.index] at h
  | b :: l, i, h => by
    by_cases hb : b = 47
    · subst hb
      have : i = 0 := by
        simp [Lib.index, List.isPrefixOf] at h
        omega
      subst this
      rw [splitL_slash]
      simp
    · have hp : ([47] : List UInt8).isPrefixOf (b :: l) = false := by simp [List.isPrefixOf]; exact fun e => hb e.symm
      unfold Lib.index at h
      rw [hp] at h
      have hg := Lib.index_ge l [47]
      by_cases hq : Lib.index l [47] = -1
      · simp [hq] at h
      · simp [hq] at h
        obtain ⟨j, rfl⟩ : ∃ j, i = j + 1 := ⟨i - 1, by omega⟩
        have hl : Lib.index l [47] = (j : Nat) := by omega
        rw [splitL_other hb, idx_some l j hl]
        rfl
/-- the parts, as texts -/
def partsP (s : ByteArray) : List ByteArray := (partsR s).map strB
theorem slash_list : slash.data.toList = [47] := rfl
theorem strB_self (s : ByteArray) : strB s.data.toList = s := by
  apply ByteArray.ext
  simp [strB]
theorem partsP_none (s : ByteArray) (h : Lib.indexB s slash = -1) : partsP s = [s] := by
  unfold partsP partsR
  rw [idx_none _ h]
  simp [strB_self]
theorem partsP_some (s : ByteArray) (i : Nat) (h : Lib.indexB s slash = i) : partsP s = s.extract 0 i :: partsP (s.extract (i + 1) s.size) := by
  unfold partsP partsR
  rw [idx_some _ i h, List.map_cons, Lib.extract_to_end]
  congr 1
  apply ByteArray.ext
  apply Array.toList_inj.1
  rw [Lib.extract_from_zero]
  simp [strB]
theorem partsP_ne (s : ByteArray) : 1 ≤ (partsP s).length := by
  unfold partsP partsR
  have := splitL_ne s.data.toList
  cases h : splitL s.data.toList with
  | nil => exact absurd h this
  | cons a t => simp
/-- strings.Split's parts -/
theorem split_parts : ∀ (n : Nat) (s : ByteArray), s.size ≤ n → Lib.splitB slash 0 (Lib.countB s slash) s = partsP s ∧ (partsP s).length = Lib.countB s slash + 1
  | n, s, hn => by
    rcases Lib.indexB_cases s slash with h | ⟨i, h, hi⟩
    · rw [Lib.countB_miss _ _ h, partsP_none s h]
      exact ⟨rfl, rfl⟩
    · have hi1 : i + 1 ≤ s.size := hi
      cases n with
      | zero => omega
      | succ n =>
        have hz : (s.extract (i + 1) s.size).size ≤ n := by rw [ByteArray.size_extract]; omega
        obtain ⟨h1, h2⟩ := split_parts n _ hz
        rw [Lib.countB_hit s slash i (by decide) h, partsP_some s i h]
        rw [Nat.add_comm 1, Lib.splitB_hit slash 0 _ s i h]
        exact ⟨by rw [Nat.add_zero, show slash.size = 1 from rfl, h1], by rw [List.length_cons, h2]; rfl⟩
/-- all parts are names -/
theorem allFrom_parts : ∀ (f : Nat) (s : ByteArray), s.size ≤ f → allFrom f s = (partsP s).all nameOk
  | f, s, hf => by
    rcases Lib.indexB_cases s slash with h | ⟨i, h, hi⟩
    · rw [allFrom_last f s h, partsP_none s h]; simp
    · have hi1 : i + 1 ≤ s.size := hi
      cases f with
      | zero => omega
      | succ f =>
        rw [partsP_some s i h, List.all_cons]
        simp only [allFrom]
        rw [if_neg (by omega), h]
        have hz : (s.extract (i + 1) s.size).size ≤ f := by rw [ByteArray.size_extract]; omega
        have := allFrom_parts f _ hz
        simp only [Int.toNat_natCast]
        rw [this]
theorem isPath_parts (s : ByteArray) : isPath s = (decide (s.size ≤ 200) && decide ((partsP s).length ≤ 8) && (partsP s).all nameOk) := by
  unfold isPath
  rw [allFrom_parts s.size s (Nat.le_refl _), (split_parts s.size s (Nat.le_refl _)).2]
  congr 2

theorem strRow_new (W : World) (xs : List ByteArray) : StrRow (W.alloc (.cells (xs.map Value.string).toArray 9)) W.heap.size xs := fun j u hj => by
  have := World.alloc_heap_new W (.cells (xs.map Value.string).toArray 9)
  unfold World.cell?
  dsimp only
  rw [this]
  simp [hj]
set_option maxRecDepth 100000 in
set_option maxHeartbeats 800000 in
theorem pcompare_any (a b : ByteArray) (w : World) (he : Env w) (ha : a.size ≤ 1000000) (hb : b.size ≤ 1000000) :
    Calls Tryd.prog 88 #[.string a, .string b] w fun e w' => e = .returned (.int .i64 (cmpL (partsP a) (partsP b))) ∧ Below w.heap.size w w' := by
  obtain ⟨⟨m, hm⟩, _⟩ := he
  obtain ⟨a1, a2⟩ := split_parts a.size a (Nat.le_refl _)
  obtain ⟨b1, b2⟩ := split_parts b.size b (Nat.le_refl _)
  have hca : Lib.countB a slash ≤ a.size + 1 := by unfold Lib.countB; exact Lib.count_le _ _
  have hcb : Lib.countB b slash ≤ b.size + 1 := by unfold Lib.countB; exact Lib.count_le _ _
  have h1 := Tryd.strings_Split a slash m w (by omega) hm (by decide)
  rw [a1, ← a2] at h1
  have hw1 : Below w.heap.size w (w.alloc (.cells ((partsP a).map Value.string).toArray 9)) := (Below.refl _ w).alloc (Nat.le_refl _) _
  have hm1 := (hw1.cell (p := ⟨0, 0, none⟩) (cellLt hm)).trans hm
  have h2 := Tryd.strings_Split b slash m _ (by omega) hm1 (by decide)
  rw [b1, ← b2] at h2
  have hA := partsP_ne a
  have hB := partsP_ne b
  have hz1 : (w.alloc (.cells ((partsP a).map Value.string).toArray 9)).heap.size = w.heap.size + 1 := by simp
  have hr1 : StrRow ((w.alloc (.cells ((partsP a).map Value.string).toArray 9)).alloc (.cells ((partsP b).map Value.string).toArray 9)) w.heap.size (partsP a) := fun j u hj => by
    rw [((Below.refl (w.heap.size + 1) (w.alloc (.cells ((partsP a).map Value.string).toArray 9))).alloc (by simp) _).cell (p := ⟨w.heap.size, j, none⟩) (by simp)]
    exact strRow_new w (partsP a) j u hj
  have hr2 : StrRow ((w.alloc (.cells ((partsP a).map Value.string).toArray 9)).alloc (.cells ((partsP b).map Value.string).toArray 9)) (w.alloc (.cells ((partsP a).map Value.string).toArray 9)).heap.size (partsP b) := fun j u hj => strRow_new _ (partsP b) j u hj
  have hb2 : Below w.heap.size w ((w.alloc (.cells ((partsP a).map Value.string).toArray 9)).alloc (.cells ((partsP b).map Value.string).toArray 9)) := hw1.alloc (by simp) _
  have h3 := slcmp_any (partsP a) (partsP b) w.heap.size _ (partsP a).length (partsP b).length _ hr1 hr2 (by omega) (by omega)
  unfold slash at h1 h2
  rw [hz1] at h2 h3
  have H1 := Lib.hid h1
  have H2 := Lib.hid h2
  have H3 := Lib.hid h3
  have HB2 := Lib.hid hb2
  clear h1 h2 h3 hb2 hr1 hr2 hm1 hm hw1 a1 b1 a2 b2 hz1 hca hcb hA hB ha hb
  go_enter Tryd.func88, Tryd.ntmps88
  go_wp2_with fail
  refine H1.out.mono ?_
  rintro e w1 ⟨rfl, rfl⟩
  go_wp2_with fail
  refine H2.out.mono ?_
  rintro e w1 ⟨rfl, rfl⟩
  go_wp2_with fail
  refine H3.out.mono ?_
  rintro e w1 ⟨rfl, rfl⟩
  go_wp2
  go_ret
  exact ⟨rfl, HB2.out⟩
end Go.Proofs.YtaoejgnfoecpfaaDoor
namespace Go.Proofs.YtaoejgnfoecpfaaDoor
set_option linter.unusedVariables false
set_option linter.unusedSimpArgs false
set_option linter.unusedSectionVars false
open Go.RowKit

theorem own_below {B : Nat} {e : TypeId} {k : Nat} {v : Value} {n : Nat} {xs : List Value} {w w' : World} (h : w.ownsRow B e k v n xs) (hb : Below w.heap.size w w') : w'.ownsRow B e k v n xs :=
  h.kept (row := none) ⟨hb.os, hb.tape, hb.output, hb.size, fun j hj _ => hb.block j hj⟩ (by cases hv : v.ownBlock <;> simp)
theorem parts_row {w : World} {B g n cap : Nat} {s : ByteArray} (h : w.ownsRow B 9 1 (.slice (some ⟨g, 0, none⟩) n cap) n (partsV (partsR s))) : StrRow w g (partsP s) ∧ n = (partsP s).length := by
  have hn : n = (partsP s).length := by
    have := h.1
    simp [partsV] at this
    simp [partsP, this]
  refine ⟨fun j u hj => ?_, hn⟩
  have hjl : j < (partsP s).length := (List.getElem?_eq_some_iff.1 hj).1
  rw [h.cellAt j (by omega)]
  unfold partsP at hj
  simp only [partsV, List.getElem?_map] at hj ⊢
  cases hq : (partsR s)[j]? with
  | none => rw [hq] at hj; simp at hj
  | some x =>
    rw [hq] at hj
    simp at hj
    simp [hj]
theorem partsP_len (s : ByteArray) : (partsP s).length ≤ s.size + 2 := by
  have h1 := (split_parts s.size s (Nat.le_refl _)).2
  have : Lib.countB s slash ≤ s.size + 1 := by unfold Lib.countB; exact Lib.count_le _ _
  omega

set_option maxRecDepth 100000 in
set_option maxHeartbeats 1600000 in
theorem refcompare_any (a b : ByteArray) (w : World) (ha : a.size ≤ 1000000) (hb : b.size ≤ 1000000) :
    Calls Tryd.prog 85 #[.string a, .string b] w fun e w' => e = .returned (.int .i64 (cmpL (partsP a) (partsP b))) ∧ Below w.heap.size w w' := by
  have hla := partsP_len a
  have hlb := partsP_len b
  have H1 := Lib.hid (parts_any a w ha)
  have H2 := Lib.hid fun W => parts_any b W hb
  go_enter Tryd.func85, Tryd.ntmps85
  go_wp2_with fail
  refine H1.out.mono ?_
  rintro e w1 ⟨ga, ca, rfl, ho1, hb1⟩
  go_wp2_with fail
  refine (H2.out w1).mono ?_
  rintro e w2 ⟨gb, cb, rfl, ho2, hb2⟩
  obtain ⟨hr1, hn1⟩ := parts_row (own_below ho1 hb2)
  obtain ⟨hr2, hn2⟩ := parts_row ho2
  have HBL := Lib.hid (hb1.trans (hb2.mono hb1.size))
  have HX := Lib.hid hr1
  have HY := Lib.hid hr2
  rw [hn1, hn2]
  clear hb1 hb2 ho1 ho2 hr1 hr2 hn1 hn2 H1 H2
  generalize hxs : partsP a = xs at *
  generalize hys : partsP b = ys at *
  have HXS := Lib.hid hxs
  have HYS := Lib.hid hys
  clear hxs hys
  go_wp2
  go_loopw [14] (fun t wr => ∃ k : Nat, t = .int .i64 (k : Nat) ∧ k ≤ xs.length ∧ k ≤ ys.length ∧ cmpL (xs.drop k) (ys.drop k) = cmpL xs ys ∧ StrRow wr ga xs ∧ StrRow wr gb ys ∧ Below w.heap.size w wr) (fun t _ => xs.length - (intOf t).toNat)
  case atStart => exact ⟨0, rfl, Nat.zero_le _, Nat.zero_le _, rfl, HX.out, HY.out, HBL.out⟩
  case round =>
    obtain ⟨k, rfl, hkx, hky, hn, hx, hy, hbl⟩ := hrel
    have HN := Lib.hid hn
    have HX := Lib.hid hx
    have HY := Lib.hid hy
    have HB := Lib.hid hbl
    have hk0 : (0 : Int) ≤ (k : Int) := by omega
    have hk1 : ((k : Int)).toNat = k := by omega
    clear hn hx hy hbl
    by_cases h1 : k < xs.length
    · have hcx := HX.out k xs[k] (List.getElem?_eq_getElem h1)
      have HDX := Lib.hid (drop_some h1)
      generalize xs[k] = x at *
      by_cases h2 : k < ys.length
      · have hcy := HY.out k ys[k] (List.getElem?_eq_getElem h2)
        have HDY := Lib.hid (drop_some h2)
        generalize ys[k] = y at *
        have hge : decide ((ys.length : Int) ≤ (k : Int)) = false := by simp; omega
        have hge2 : ¬ (ys.length : Int) ≤ (k : Int) := by omega
        have HD := Lib.hid (show cmpL (x :: xs.drop (k + 1)) (y :: ys.drop (k + 1)) = if sCmp x y = 0 then cmpL (xs.drop (k + 1)) (ys.drop (k + 1)) else sCmp x y from rfl)
        cases hl : Op.bytesLess x.toList y.toList with
        | true =>
          have HS := Lib.hid (show sCmp x y = -1 by unfold sCmp lessS; rw [if_pos hl])
          go_upto_region 5 with fail
          go_region
          go_upto_region 7 with fail
          go_region
          go_wp2
          go_ret
          exact ⟨ret_int (by rw [HXS.out, HYS.out, ← HN.out, HDX.out, HDY.out, HD.out, HS.out]; rfl), HB.out.drew.drew⟩
        | false =>
          cases hq : x.toList == y.toList with
          | true =>
            have HS := Lib.hid (show sCmp x y = 0 by unfold sCmp lessS; rw [if_neg (by rw [hl]; simp), if_pos (eq_of_beq hq)])
            go_upto_region 5 with fail
            go_region
            go_upto_region 7 with fail
            go_region
            go_wp2
            go_roundw
            case rel => exact ⟨k + 1, by go_num, by omega, by omega, by rw [← HN.out, HDX.out, HDY.out, HD.out, if_pos HS.out], HX.out, HY.out, HB.out.drew.drew⟩
            case measure => simp [intOf]; omega
          | false =>
            have HS := Lib.hid (show sCmp x y = 1 by unfold sCmp lessS; rw [if_neg (by rw [hl]; simp), if_neg (fun e => by rw [e] at hq; simp at hq)])
            go_upto_region 5 with fail
            go_region
            go_wp2
            go_ret
            exact ⟨ret_int (by rw [HXS.out, HYS.out, ← HN.out, HDX.out, HDY.out, HD.out, HS.out]; rfl), HB.out.drew⟩
      · have HF := Lib.hid (show ys.drop k = [] from List.drop_of_length_le (by omega))
        have hge : decide ((ys.length : Int) ≤ (k : Int)) = true := by simp; omega
        have hge2 : (ys.length : Int) ≤ (k : Int) := by omega
        go_upto_region 5 with fail
        go_region
        go_wp2
        go_ret
        exact ⟨ret_int (by rw [HXS.out, HYS.out, ← HN.out, HDX.out, HF.out]; rfl), HB.out.drew⟩
    · have HF := Lib.hid (show xs.drop k = [] from List.drop_of_length_le (by omega))
      have hke : k = xs.length := by omega
      by_cases h2 : k < ys.length
      · have HDY := Lib.hid (drop_some h2)
        generalize ys[k] = y at *
        go_wp2
        go_ret
        exact ⟨ret_int (by rw [HXS.out, HYS.out, ← HN.out, HF.out, HDY.out]; rfl), HB.out⟩
      · have HG := Lib.hid (show ys.drop k = [] from List.drop_of_length_le (by omega))
        go_wp2
        go_ret
        exact ⟨ret_int (by rw [HXS.out, HYS.out, ← HN.out, HF.out, HG.out]; rfl), HB.out⟩
end Go.Proofs.YtaoejgnfoecpfaaDoor
