/- A tree's nodes: the records of a row of nodes. -/
import Derived.Test.YtaoejgnfoecpfaaDoorNt
namespace Go.Proofs.YtaoejgnfoecpfaaDoor
open Go.RowKit

theorem own_emptyN {w : World} {B k : Nat} {t : TypeId} (h : B ≤ w.heap.size) : (w.alloc (.cells #[] t)).ownsRow B t k (.slice (some ⟨w.heap.size, 0, none⟩) 0 0) 0 [] :=
  ⟨by simp, .inr ⟨w.heap.size, 0, #[], rfl, h, heap_alloc_new w _, Nat.le_refl _, Nat.zero_le _, by simp, by simp⟩⟩
def ListPost (l : List Nr) (w : World) (e : Ending) (w' : World) : Prop :=
  ∃ A c, e = .returned (.slice A l.length c) ∧ RecsA w' A (l.map tell) ∧ l.length ≤ c ∧ Below w.heap.size w w'
set_option maxRecDepth 100000 in
set_option maxHeartbeats 3200000 in
theorem list_any (l : List Nr) (A : Option Addr) (c : Nat) (w : World) (h : NodesA w A l) (hc : ∀ x ∈ l, x.chunks.length ≤ 1000000) (hl : l.length ≤ 1000000) : Calls Tryd.prog 26 #[.slice A l.length c] w (ListPost l w) := by
  have HN := Lib.hid fun W (hb : Below w.heap.size w W) => h.below hb
  have HC := Lib.hid hc
  clear h hc
  go_enter Tryd.func26, Tryd.ntmps26
  go_wp2
  have hb0 := (Below.refl w.heap.size w).alloc (Nat.le_refl _) (.cells #[] 72)
  go_loopw [3, 5, 9] (fun ov nv i wr => ∃ (rs : List (Nr × Option Addr × Nat)) (B : Option Addr) (d : Nat) (u : Value), ov = .slice B rs.length d ∧ nv = u ∧ i = .int .i64 (rs.length : Nat) ∧ rs.length ≤ l.length ∧ rs.map (·.1) = (l.take rs.length).map tell ∧ rs.length ≤ d ∧ wr.ownsRow w.heap.size 72 7 (.slice B rs.length d) rs.length (recsC rs) ∧ RecsV wr (fun k => (Value.slice B rs.length d).ownBlock ≠ some k) rs ∧ Below w.heap.size w wr) (fun _ _ i _ => l.length - (intOf i).toNat)
  case atStart => exact ⟨[], some ⟨w.heap.size, 0, none⟩, 0, _, rfl, rfl, rfl, Nat.zero_le _, rfl, Nat.le_refl _, own_emptyN (Nat.le_refl _), fun r hr => absurd hr (by simp), hb0⟩
  case round =>
    obtain ⟨rs, B, d, u, rfl, rfl, rfl, hk, hrs, hcap, how, hrv, hbel⟩ := hrel
    have HO := Lib.hid how
    have HV := Lib.hid hrv
    have HB := Lib.hid hbel
    have HR := Lib.hid hrs
    clear how hrv hrs hb0
    by_cases hkl : rs.length < l.length
    · obtain ⟨g, o, rfl, hg, hcc⟩ := HN.out w (Below.refl _ _) (by omega)
      obtain ⟨u, hcu0, hiu⟩ := hcc rs.length l[rs.length] (List.getElem?_eq_getElem hkl)
      have hcu := (hbel.cell (p := ⟨g, o + rs.length, none⟩) hg).trans hcu0
      have HT := Lib.hid (told_any l[rs.length] u wr (hiu.below hbel) (HC.out _ (List.getElem_mem hkl)))
      have HR2 := Lib.hid (show (l.take (rs.length + 1)).map tell = (l.take rs.length).map tell ++ [tell l[rs.length]] by rw [List.take_succ_eq_append_getElem hkl, List.map_append]; rfl)
      clear hcc hcu0 hiu hbel
      generalize l[rs.length] = x at *
      have hk0 : (0 : Int) ≤ (rs.length : Int) := by omega
      have hki : (rs.length : Int) < (l.length : Int) := by omega
      have hk3 : ((rs.length : Int)).toNat = rs.length := by omega
      go_wp2_with fail
      refine HT.out.mono ?_
      rintro e w1 ⟨A1, c1, rfl, hst1, hnw1, hn1, hb1⟩
      have HO2 := Lib.hid (own_atN HO.out (w' := w1) fun i hi => hb1.block i (HO.out.lt i hi).2)
      have HV2 := Lib.hid (HV.out.keep (Q := fun k => (Value.slice B rs.length d).ownBlock ≠ some k) hb1.size fun k hk hl => ⟨hb1.block k hl, hk⟩)
      have HB2 := Lib.hid (HB.out.trans (hb1.mono HB.out.size))
      have HST := Lib.hid hst1
      have HNW := Lib.hid (show ∀ k o, A1 = some ⟨k, o, none⟩ → (Value.slice B rs.length d).ownBlock ≠ some k from fun k o e e2 => by have h1 := (HO.out.lt k e2).2; have h2 := hnw1 k o e; omega)
      clear hst1 hnw1 hb1
      generalize tell x = y at *
      unfold recC
      go_wp2_with (at_builtin; refine wpList_app1 rfl _ _ 22 rfl w.heap.size 72 Tryd.underlying22 infoRc rfl (by decide) _ _ _ rfl HO2.out _ rfl rfl (by simp [Value.oneCell']) (by omega) (by omega) HB2.out.size ?_)
      intro g5 cap5 w5 ho5 hg5 hb5 hl5
      have hcp : rs.length + 1 ≤ cap5 := by
        rcases ho5.2 with ⟨hv, _⟩ | ⟨g, cap, cur, hv, _, _, hc, _⟩
        · cases hv
        · injection hv with _ _ hv
          omega
      have HO5 := Lib.hid (show w5.ownsRow w.heap.size 72 7 (.slice (some ⟨g5, 0, none⟩) (rs ++ [(y, A1, c1)]).length cap5) (rs ++ [(y, A1, c1)]).length (recsC (rs ++ [(y, A1, c1)])) by
        rw [recsC_snoc]
        have := ho5
        simpa [recC] using this)
      have HB5 := Lib.hid (HB2.out.grown hg5 HB2.out.size fun j hj => (HO2.out.lt j hj).1)
      have HV5 := Lib.hid (show RecsV w5 (fun k => (Value.slice (some ⟨g5, 0, none⟩) (rs ++ [(y, A1, c1)]).length cap5).ownBlock ≠ some k) (rs ++ [(y, A1, c1)]) from by
        have h1 := HV2.out.snoc (r := (y, A1, c1)) HST.out (fun _ k o e => HNW.out k o e)
        refine h1.keep hg5.size fun k hk hl => ⟨hg5.block k hl (fun e => hk e.symm), fun e => ?_⟩
        simp only [Value.ownBlock, Option.some.injEq] at e
        subst e
        rcases hl5 with h | h
        · exact hk h
        · omega)
      clear ho5 hg5 hb5 hl5
      go_wp2
      go_roundw
      case rel => exact ⟨rs ++ [(y, A1, c1)], some ⟨g5, 0, none⟩, cap5, _, by simp, rfl, by first | rfl | (simp; done) | go_num, by simp; omega, by rw [List.length_append, List.length_singleton, HR2.out, List.map_append, HR.out]; rfl, by simpa using hcp, HO5.out, HV5.out, HB5.out⟩
      case measure => simp [intOf]; omega
    · have hke : rs.length = l.length := by omega
      have HX := Lib.hid (show RecsA wr B (l.map tell) by
        have h1 := HV.out.row HO.out
        rw [HR.out, hke, List.take_length] at h1
        exact h1)
      clear hkl
      go_wp2
      go_ret
      exact ⟨B, d, by rw [← hke]; rfl, HX.out, by omega, HB.out⟩
end Go.Proofs.YtaoejgnfoecpfaaDoor
