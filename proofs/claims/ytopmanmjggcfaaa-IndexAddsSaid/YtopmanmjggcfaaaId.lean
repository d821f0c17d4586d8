/- The index: Add. -/
import Derived.Test.YtopmanmjggcfaaaIc
import Derived.Deep.DeepCutAuto
import Derived.Deep.RegionLaw
namespace Go.Proofs.Ytopmanmjggcfaaa
open Go.RowKit

/-- an index, somewhat later: what is new is new -/
def IxGo (b : Nat) (mb rb : Option Nat) (w w' : World) (mb' rb' : Option Nat) : Prop := Touch (IxF b mb rb) w w' ∧ (mb' = mb ∨ ∃ k, mb' = some k ∧ w.heap.size ≤ k) ∧ (rb' = rb ∨ ∃ k, rb' = some k ∧ w.heap.size ≤ k)
theorem IxGo.refl (b : Nat) (mb rb : Option Nat) (w : World) : IxGo b mb rb w w mb rb := ⟨Touch.refl _ _, .inl rfl, .inl rfl⟩
theorem IxGo.trans {b : Nat} {mb rb mb' rb' mb2 rb2 : Option Nat} {w w' w2 : World} (h : IxGo b mb rb w w' mb' rb') (k : IxGo b mb' rb' w' w2 mb2 rb2) : IxGo b mb rb w w2 mb2 rb2 := by
  obtain ⟨h1, h2, h3⟩ := h
  obtain ⟨k1, k2, k3⟩ := k
  refine ⟨h1.trans k1 ?_, ?_, ?_⟩
  · rintro i hi (rfl | e | e)
    · exact .inl rfl
    · rcases h2 with rfl | ⟨j, rfl, hj⟩
      · exact .inr (.inl e)
      · cases e; omega
    · rcases h3 with rfl | ⟨j, rfl, hj⟩
      · exact .inr (.inr e)
      · cases e; omega
  · rcases k2 with rfl | ⟨j, rfl, hj⟩
    · exact h2
    · exact .inr ⟨j, rfl, Nat.le_trans h1.size hj⟩
  · rcases k3 with rfl | ⟨j, rfl, hj⟩
    · exact h3
    · exact .inr ⟨j, rfl, Nat.le_trans h1.size hj⟩
theorem IxGo.below {b : Nat} {mb rb mb' rb' : Option Nat} {w w' w2 : World} (h : IxGo b mb rb w w' mb' rb') (hb : Below w'.heap.size w' w2) : IxGo b mb rb w w2 mb' rb' :=
  ⟨h.1.trans (Touch.of_below (IxF b mb rb) hb) (fun _ _ h => h), h.2⟩
theorem IxMap.block {w w' : World} {mb : Option Nat} {l : List (ByteArray × Pl)} (h : IxMap w mb l) (he : ∀ k, mb = some k → w'.heap[k]? = w.heap[k]?) : IxMap w' mb l := by
  cases mb with
  | none => exact h
  | some m => exact ownsKV_block h (he m rfl)
theorem IxAt.lt {w : World} {b : Nat} {mb rb : Option Nat} {X : Ix} (h : IxAt w b mb rb X) : ∀ k, IxF b mb rb k → k < w.heap.size := by
  obtain ⟨A, c, hk, ho, hrb, _, hm⟩ := h
  rintro k (rfl | rfl | rfl)
  · exact hk.lt
  · exact ownsKV_lt (show ownsKV w Try.prog 9 k (kvMap plV X.places) from hm)
  · exact (ho.lt k hrb).2
theorem own_at {w w' : World} {B n k : Nat} {t : TypeId} {v : Value} {xs : List Value} (h : w.ownsRow B t k v n xs) (he : ∀ j, v.ownBlock = some j → w'.heap[j]? = w.heap[j]?) : w'.ownsRow B t k v n xs := by
  obtain ⟨q1, q2⟩ := h
  refine ⟨q1, q2.imp id ?_⟩
  rintro ⟨g, cap, cur, r1, r2, r3, r4⟩
  exact ⟨g, cap, cur, r1, r2, (he g (by rw [r1]; rfl)).trans r3, r4⟩
theorem IxAt.block {w w' : World} {b : Nat} {mb rb : Option Nat} {X : Ix} (h : IxAt w b mb rb X) (he : ∀ k, IxF b mb rb k → w'.heap[k]? = w.heap[k]?) : IxAt w' b mb rb X := by
  obtain ⟨A, c, hk, ho, hrb, hne, hm⟩ := h
  exact ⟨A, c, (he b (.inl rfl)).trans hk, own_at ho (fun j hj => he j (.inr (.inr (by rw [← hrb]; exact hj)))), hrb, hne, hm.block (fun k hk => he k (.inr (.inl hk)))⟩
theorem IxAt.below {w w' : World} {b : Nat} {mb rb : Option Nat} {X : Ix} (h : IxAt w b mb rb X) (hb : Below w.heap.size w w') : IxAt w' b mb rb X := h.block fun k hk => hb.block k (h.lt k hk)
theorem RowA.at {w w' : World} {k : Nat} {A : Option Addr} {l : List (List Value)} (h : RowA w w.heap.size k A l) {F : Nat → Prop} (hb : Touch F w w') (hf : ∀ g o, A = some ⟨g, o, none⟩ → ¬ F g) : RowA w' w'.heap.size k A l := fun hl => by
  obtain ⟨b, o, h1, h2, h3⟩ := h hl
  exact ⟨b, o, h1, Nat.lt_of_lt_of_le h2 hb.size, fun i c hc j u hj => (hb.cell (p := ⟨b, o + i * k + j, none⟩) h2 (hf b o h1)).trans (h3 i c hc j u hj)⟩
def AddPost (b : Nat) (mb rb : Option Nat) (X : Ix) (pack : ByteArray) (hs : List Hd) (w : World) (e : Ending) (w' : World) : Prop := e = .returned (.tuple #[]) ∧ ∃ mb' rb', IxAt w' b mb' rb' (X.add pack hs) ∧ IxGo b mb rb w w' mb' rb'
/-- behind the map's making -/
def MidM (b : Nat) (mb rb : Option Nat) (X : Ix) (w W : World) : Prop := ∃ m, IxAt W b (some m) rb X ∧ IxGo b mb rb w W (some m) rb
def MidP (b : Nat) (mb rb : Option Nat) (X : Ix) (w W : World) : Prop := ∃ m rb', IxAt W b (some m) rb' X ∧ IxGo b mb rb w W (some m) rb'
theorem mid_none {b : Nat} {rb : Option Nat} {X : Ix} {w : World} (h : IxAt w b none rb X) : MidM b none rb X w ((w.setCell ⟨b, 0, none⟩ (.map (some w.heap.size))).alloc (.map #[] 0)) := by
  have hlt := h.lt
  obtain ⟨A, c, hk, ho, hrb, hne, hm⟩ := h
  have hX : X.places = [] := hm
  have hbl := hk.lt
  refine ⟨w.heap.size, ⟨A, c, (hk.set_ 0 (.map (some w.heap.size))).alloc (.map #[] 0), own_at ho (fun j hj => ?_), hrb, hne, ?_⟩, ?_, .inr ⟨_, rfl, Nat.le_refl _⟩, .inl rfl⟩
  · have hj' : rb = some j := by rw [← hrb]; exact hj
    have hjb : j ≠ b := fun e => hne (by rw [hj', e])
    rw [Below.heap_alloc _ _ _ (by rw [World.size_setCell]; exact hlt j (.inr (.inr hj'))), Below.heap_setCell _ _ _ _ hjb]
  · show ownsKV _ Try.prog 9 w.heap.size (kvMap plV X.places)
    rw [hX]
    have := ownsKV_made (w.setCell ⟨b, 0, none⟩ (.map (some w.heap.size))) Try.prog 9
    rw [World.size_setCell] at this
    exact this
  · exact ((Touch.setc w b 0 _).mono (fun i _ e => .inl e)).trans (Touch.alloc (IxF b none rb) _ _) (fun i _ h => h)
theorem map_row {w : World} {m B n k : Nat} {t K : TypeId} {l : List (ByteArray × Value)} {v : Value} {xs : List Value} (h : ownsKV w Try.prog K m l) (ho : w.ownsRow B t k v n xs) : v.ownBlock ≠ some m := fun e => by
  obtain ⟨es, clock, hb, _⟩ := h
  rcases ho.2 with ⟨hv, _⟩ | ⟨g, cap, cur, r1, r2, r3, _⟩
  · rw [hv] at e; cases e
  · rw [r1] at e
    obtain rfl : g = m := by simpa [Value.ownBlock] using e
    rw [hb] at r3; cases r3
theorem map_blk {w : World} {m b : Nat} {t K : TypeId} {l : List (ByteArray × Value)} {cs : Array Value} (h : ownsKV w Try.prog K m l) (hk : Blk w b t cs) : m ≠ b := fun e => by
  obtain ⟨es, clock, hb, _⟩ := h
  unfold Blk at hk
  rw [e, hk] at hb
  cases hb
theorem mid_app {b m : Nat} {rb : Option Nat} {X : Ix} {pack : ByteArray} {wc w5 : World} {Ap : Option Addr} {cp g5 cap5 : Nat} (hk : Blk wc b 27 #[.map (some m), .slice Ap X.packs.length cp])
    (ho : wc.ownsRow 0 9 1 (.slice Ap X.packs.length cp) X.packs.length (strsV X.packs)) (hr : (Value.slice Ap X.packs.length cp).ownBlock = rb ∧ rb ≠ some b) (hm : IxMap wc (some m) X.places)
    (ho5 : w5.ownsRow 0 9 1 (.slice (some ⟨g5, 0, none⟩) (X.packs.length + 1) cap5) (X.packs.length + 1) (strsV X.packs ++ [.string pack])) (hg5 : wc.grownBy w5 (Value.slice Ap X.packs.length cp).ownBlock) (hl5 : (Value.slice Ap X.packs.length cp).ownBlock = some g5 ∨ g5 = wc.heap.size + 1) :
    IxAt (w5.setCell ⟨b, 1, none⟩ (.slice (some ⟨g5, 0, none⟩) (X.packs.length + 1) cap5)) b (some m) (some g5) ⟨X.packs ++ [pack], X.places⟩ ∧ IxGo b (some m) rb wc (w5.setCell ⟨b, 1, none⟩ (.slice (some ⟨g5, 0, none⟩) (X.packs.length + 1) cap5)) (some m) (some g5) := by
  obtain ⟨hr1, hr2⟩ := hr
  have hmk : ownsKV wc Try.prog 9 m (kvMap plV X.places) := hm
  have hm1 := map_row hmk ho
  have hm2 := map_blk hmk hk
  have hbl := hk.lt
  rw [hr1] at hg5 hl5 hm1
  have hgb : g5 ≠ b := by
    rcases hl5 with e | e
    · exact fun e' => hr2 (by rw [e, e'])
    · omega
  have hk5 := hk.grown hg5 (fun e => hr2 e.symm)
  refine ⟨⟨some ⟨g5, 0, none⟩, cap5, ?_, ?_, rfl, by simpa using hgb, ?_⟩, ?_, .inl rfl, ?_⟩
  · have := hk5.set_ 1 (.slice (some ⟨g5, 0, none⟩) (X.packs.length + 1) cap5)
    simpa using this
  · have e1 : (X.packs ++ [pack]).length = X.packs.length + 1 := by simp
    have e2 : strsV (X.packs ++ [pack]) = strsV X.packs ++ [.string pack] := by simp [strsV]
    rw [e1, e2]
    refine own_at ho5 fun j hj => Below.heap_setCell _ _ _ _ ?_
    obtain rfl : g5 = j := by simpa [Value.ownBlock] using hj
    exact hgb
  · show ownsKV _ Try.prog 9 m (kvMap plV X.places)
    refine ownsKV_block hmk ?_
    rw [Below.heap_setCell _ _ _ _ hm2]
    exact hg5.block m hmk.lt (fun e => hm1 e.symm)
  · exact ((Touch.of_grown hg5).mono (fun i _ e => .inr (.inr e))).trans (Touch.setc w5 b 1 _) (fun i _ e => .inl e)
  · rcases hl5 with e | e
    · exact .inl e.symm
    · exact .inr ⟨g5, rfl, by omega⟩
theorem hd_far {b : Nat} {mb rb mb' rb' : Option Nat} {w w' : World} {A : Option Addr} {l : List (List Value)} {k : Nat} (hh : RowA w w.heap.size k A l) (hd : ∀ g o, A = some ⟨g, o, none⟩ → ¬ IxF b mb rb g) (hl : 0 < l.length) (hg : IxGo b mb rb w w' mb' rb') : ∀ g o, A = some ⟨g, o, none⟩ → ¬ IxF b mb' rb' g := by
  obtain ⟨g0, o0, rfl, hlt, _⟩ := hh hl
  rintro g o e
  simp only [Option.some.injEq, Addr.mk.injEq, and_true] at e
  obtain ⟨rfl, rfl⟩ := e
  have h0 := hd g0 o0 rfl
  rintro (rfl | e | e)
  · exact h0 (.inl rfl)
  · rcases hg.2.1 with rfl | ⟨j, rfl, hj⟩
    · exact h0 (.inr (.inl e))
    · cases e; omega
  · rcases hg.2.2 with rfl | ⟨j, rfl, hj⟩
    · exact h0 (.inr (.inr e))
    · cases e; omega
theorem hh2 {b : Nat} {mb rb mb' rb' : Option Nat} {w w' : World} {A : Option Addr} {l : List (List Value)} {k : Nat} (hh : RowA w w.heap.size k A l) (hd : ∀ g o, A = some ⟨g, o, none⟩ → ¬ IxF b mb rb g) (hg : IxGo b mb rb w w' mb' rb') : RowA w' w'.heap.size k A l := hh.at hg.1 hd
theorem hd2 {b : Nat} {mb rb mb' rb' : Option Nat} {w w' : World} {A : Option Addr} {l : List (List Value)} {k : Nat} (hh : RowA w w.heap.size k A l) (hd : ∀ g o, A = some ⟨g, o, none⟩ → ¬ IxF b mb rb g) (hg : IxGo b mb rb w w' mb' rb') : 0 < l.length → ∀ g o, A = some ⟨g, o, none⟩ → ¬ IxF b mb' rb' g := fun hl => hd_far hh hd hl hg
theorem hr_go {b : Nat} {mb rb mb' rb' : Option Nat} {w w' : World} {A : Option Addr} {l : List (List Value)} {k : Nat} (hh : RowA w w.heap.size k A l) (hd : 0 < l.length → ∀ g o, A = some ⟨g, o, none⟩ → ¬ IxF b mb rb g) (hg : IxGo b mb rb w w' mb' rb') : RowA w' w'.heap.size k A l := fun hl => (hh.at hg.1 (hd hl)) hl
theorem ix_put {b m : Nat} {rb : Option Nat} {P : List ByteArray} {L L' : List (ByteArray × Pl)} {wb w5 : World} (h : IxAt wb b (some m) rb ⟨P, L⟩) (hown : ownsKV w5 Try.prog 9 m (kvMap plV L')) (hg : wb.drew.grownBy w5 (some m)) :
    IxAt w5 b (some m) rb ⟨P, L'⟩ ∧ IxGo b (some m) rb wb w5 (some m) rb := by
  have hlt := h.lt
  obtain ⟨A, c, hk, ho, hrb, hne, hm⟩ := h
  have hmk : ownsKV wb Try.prog 9 m (kvMap plV L) := hm
  have hm1 := map_row hmk ho
  have hm2 := map_blk hmk hk
  refine ⟨⟨A, c, hk.drew.grown hg (by simp; exact fun e => hm2 e.symm), own_at ho (fun j hj => ?_), hrb, hne, hown⟩, ?_, .inl rfl, .inl rfl⟩
  · refine hg.block j (hlt j (.inr (.inr (by rw [← hrb]; exact hj)))) ?_
    rintro e
    simp only [Option.some.injEq] at e
    subst e
    exact hm1 hj
  · have h1 : Touch (IxF b (some m) rb) wb wb.drew := Touch.of_below _ (Below.refl wb.heap.size wb).drew
    exact h1.trans ((Touch.of_grown hg).mono (fun i _ e => .inr (.inl e))) (fun i _ h => h)
set_option maxRecDepth 100000 in
set_option maxHeartbeats 1600000 in
theorem iadd_any (b : Nat) (mb rb : Option Nat) (X : Ix) (pack : ByteArray) (hs : List Hd) (A : Option Addr) (c : Nat) (w : World) (h : IxAt w b mb rb X) (hh : RowA w w.heap.size 6 A (hs.map hdC)) (hd : ∀ g o, A = some ⟨g, o, none⟩ → ¬ IxF b mb rb g)
    (hl : hs.length ≤ 1000) (hpl : X.places.length ≤ 1000000) (hpk : X.packs.length ≤ 1000000) (_hsz : pack.size ≤ 9223372036854775807) (hnz : ∀ h ∈ hs, h.name.size ≤ 9223372036854775807) :
    Calls Try.prog 8 #[.pointer (some ⟨b, 0, none⟩), .string pack, .slice A hs.length c] w fun e w' => AddPost b mb rb X pack hs w e w' := by
  have HI := Lib.hid h
  have HH := Lib.hid hh
  have HD := Lib.hid hd
  have HNZ := Lib.hid hnz
  clear h hh hd hnz
  go_enter Try.func8, Try.ntmps8
  have c0 : w.cell? ⟨b, 0, none⟩ = some (.map mb) := by
    obtain ⟨A', c', hk, _⟩ := HI.out
    exact hk.cell 0
  have f0 : w.frozen? ⟨b, 0, none⟩ = false := by
    obtain ⟨A', c', hk, _⟩ := HI.out
    exact hk.frozen 0
  have hbl := HI.out.lt b (.inl rfl)
  have hmm := @run_makeMap Try.prog
  have hq := run_eql_map_nil (P := Try.prog) w 24 9 34 mb Try.underlying24
  have HNN := Lib.hid (show (mb.isNone = true → mb = none) ∧ (mb.isNone = false → mb ≠ none) by cases mb <;> simp)
  generalize mb.isNone = nn at *
  go_upto_if 14 with fail
  go_cut [] (fun wc => MidM b mb rb X w wc)
  case first =>
    cases nn with
    | true =>
      obtain rfl := HNN.out.1 rfl
      have HM := Lib.hid (mid_none HI.out)
      go_wp2_with fail
      go_meet
      exact HM.out
    | false =>
      obtain ⟨m, rfl⟩ := Option.ne_none_iff_exists'.1 (HNN.out.2 rfl)
      go_wp2_with fail
      go_meet
      exact ⟨m, HI.out, IxGo.refl _ _ _ _⟩
  case rest =>
    clear c0 f0 hq HNN hmm
    obtain ⟨wo, rfl⟩ : ∃ wo : World, wo = wc := ⟨_, rfl⟩
    obtain ⟨m, hi, hg⟩ := hcut
    have HI1 := Lib.hid hi
    have HG1 := Lib.hid hg
    have hbc : b < wo.heap.size := hi.lt b (.inl rfl)
    clear hi hg
    obtain ⟨Ap, cp, hk, ho, hrb, hne, hm⟩ := HI1.out
    have c1 : wo.cell? ⟨b, 1, none⟩ = some (.slice Ap X.packs.length cp) := hk.cell 1
    have f1 := hk.frozen 1
    have HC := Lib.hid (has_any Ap cp X.packs pack wo (own_strs (l := X.packs) ho).1 (by omega))
    have HP := Lib.hid (show addP X.packs pack = if hasP X.packs pack = true then X.packs else X.packs ++ [pack] from rfl)
    have HO := Lib.hid ho
    have HRB := Lib.hid (And.intro hrb hne)
    have HK := Lib.hid hk
    have HM := Lib.hid hm
    clear hk ho hrb hne hm
    generalize hasP X.packs pack = hp at *
    go_wp2_with fail
    refine HC.out.mono ?_
    rintro e w1 ⟨rfl, rfl⟩
    go_upto_if 25 with fail
    go_cut [] (fun wd => MidP b mb rb ⟨addP X.packs pack, X.places⟩ w wd)
    case first =>
      cases hp with
      | true =>
        have HP2 : addP X.packs pack = X.packs := HP.out.trans (if_pos rfl)
        go_wp2_with fail
        go_meet
        rw [HP2]
        exact ⟨m, rb, HI1.out, HG1.out⟩
      | false =>
        have HP2 := Lib.hid (show addP X.packs pack = X.packs ++ [pack] from HP.out.trans (if_neg (by simp)))
        go_wp2_with (at_builtin; refine wpList_app1 rfl _ _ 25 rfl 0 9 Try.underlying25 infoS rfl (by decide) _ _ _ rfl HO.out _ rfl rfl (oneCell_string _) ?_ ?_ (Nat.zero_le _) ?_; omega; omega; intro g5 cap5 w5 ho5 hgr5 _ hloc5; have hk5 := HK.out.grown hgr5 (fun e => HRB.out.2 (by rw [← HRB.out.1]; exact e.symm)); have c5 : w5.cell? ⟨b, 1, none⟩ = some (.slice Ap X.packs.length cp) := hk5.cell 1; have f5 := hk5.frozen 1; have HM5 := Lib.hid (mid_app HK.out HO.out HRB.out HM.out ho5 hgr5 hloc5); clear ho5 hgr5 hloc5 hk5)
        go_meet
        rw [HP2.out]
        exact ⟨m, some g5, HM5.out.1, HG1.out.trans HM5.out.2⟩
    case rest =>
      obtain ⟨m2, rb2, hi2, hg2⟩ := hcut
      have HI2 := Lib.hid hi2
      have HG2 := Lib.hid hg2
      have HR2 := Lib.hid (hh2 HH.out HD.out hg2)
      have HD2 := Lib.hid (hd2 HH.out HD.out hg2)
      have hpl2 : X.places.length ≤ 1000000 := hpl
      clear hi2 hg2 HP HC HO HRB HK HM HI1 HG1 HI c1 f1
      generalize hPK : addP X.packs pack = PK at *
      have HPK := Lib.hid hPK
      clear hPK
      go_wp2
      go_loopw [38] (fun i wr => ∃ (k : Nat), i = .int .i64 (k : Nat) ∧ k ≤ hs.length ∧ IxAt wr b (some m2) rb2 ⟨PK, (hs.take k).foldl (addH pack) X.places⟩ ∧ IxGo b mb rb w wr (some m2) rb2 ∧ IxGo b (some m2) rb2 wc wr (some m2) rb2) (fun i _ => hs.length - (intOf i).toNat)
      case atStart => exact ⟨0, rfl, Nat.zero_le _, HI2.out, HG2.out, IxGo.refl _ _ _ _⟩
      case round =>
        obtain ⟨k, rfl, hk, hi, hg, hgd⟩ := hrel
        have HIR := Lib.hid hi
        have HGR := Lib.hid hg
        have HGD := Lib.hid hgd
        have HRR := Lib.hid (hr_go HR2.out HD2.out hgd)
        clear hi hg hgd
        by_cases hkl : k < hs.length
        · have hek := List.getElem?_eq_getElem hkl
          have HTK := Lib.hid (show (hs.take (k + 1)).foldl (addH pack) X.places = addH pack ((hs.take k).foldl (addH pack) X.places) hs[k] by rw [List.take_succ_eq_append_getElem hkl, List.foldl_append]; rfl)
          have hnm := HNZ.out hs[k] (List.getElem_mem hkl)
          have hlen := adds_len (pack := pack) (hs.take k) X.places
          rw [List.length_take] at hlen
          obtain ⟨g, o, rfl, hgl, hcell⟩ := HRR.out (by simp; omega)
          have hck := hcell k (hdC hs[k]) (by rw [List.getElem?_map, hek]; rfl)
          generalize hs[k] = hd at *
          generalize (hs.take k).foldl (addH pack) X.places = L at *
          have q0 : wr.cell? ⟨g, o + k * 6, none⟩ = some (.string hd.name) := hck 0 _ rfl
          have q1 : wr.cell? ⟨g, o + k * 6 + 1, none⟩ = some (.int .i64 hd.method) := hck 1 _ rfl
          have q2 : wr.cell? ⟨g, o + k * 6 + 2, none⟩ = some (.int .u32 hd.crc) := hck 2 _ rfl
          have q3 : wr.cell? ⟨g, o + k * 6 + 3, none⟩ = some (.int .i64 hd.packed) := hck 3 _ rfl
          have q4 : wr.cell? ⟨g, o + k * 6 + 4, none⟩ = some (.int .i64 hd.size) := hck 4 _ rfl
          have q5 : wr.cell? ⟨g, o + k * 6 + 5, none⟩ = some (.int .i64 hd.at_) := hck 5 _ rfl
          have hk0 : (0 : Int) ≤ (k : Int) := by omega
          have hk1 : (k : Int) < (hs.length : Int) := by omega
          have hk3 : ((k : Int)).toNat = k := by omega
          clear hcell hck hek hk
          go_upto_region 7 with fail
          have hba : Below wr.heap.size wr (wr.alloc (.cells #[.string hd.name, .int .i64 hd.method, .int .u32 hd.crc, .int .i64 hd.packed, .int .i64 hd.size, .int .i64 hd.at_] 32)) := (Below.refl _ _).alloc (Nat.le_refl _) _
          have hka := Blk.new wr 32 #[.string hd.name, .int .i64 hd.method, .int .u32 hd.crc, .int .i64 hd.packed, .int .i64 hd.size, .int .i64 hd.at_]
          have HIA := Lib.hid (HIR.out.below hba)
          have HGA := Lib.hid (HGR.out.below hba)
          have HGDA := Lib.hid (HGD.out.below hba)
          have hrl : wr.heap.size < (wr.alloc (.cells #[.string hd.name, .int .i64 hd.method, .int .u32 hd.crc, .int .i64 hd.packed, .int .i64 hd.size, .int .i64 hd.at_] 32)).heap.size := hka.lt
          clear hba q0 q1 q2 q3 q4 q5 HIR HGR HGD HRR hk0 hk1 hk3
          generalize wr.alloc (.cells #[.string hd.name, .int .i64 hd.method, .int .u32 hd.crc, .int .i64 hd.packed, .int .i64 hd.size, .int .i64 hd.at_] 32) = wa at *
          have HKA := Lib.hid hka
          have a0 : wa.cell? ⟨wr.heap.size, 0, none⟩ = some (.string hd.name) := hka.cell 0
          have c0 : wa.cell? ⟨b, 0, none⟩ = some (.map (some m2)) := by
            obtain ⟨_, _, hk', _⟩ := HIA.out
            exact hk'.cell 0
          have hm : ownsKV wa Try.prog 9 m2 (kvMap plV L) := by
            obtain ⟨_, _, _, _, _, _, hm⟩ := HIA.out
            exact hm
          have hbl2 : b < wa.heap.size := HIA.out.lt b (.inl rfl)
          have hmax : hd.name.size ≤ maxLen := by unfold maxLen; exact hnm
          have hz := fun W => zeroPl W
          have HZ := Lib.hid hz
          clear hz hka
          cases hget : kvGet L hd.name with
          | some p =>
            have hkv : kvGet (kvMap plV L) hd.name = some (plV p) := by rw [kvGet_map, hget]; rfl
            have hr1 := run_kvFound (w := wa.drew) Try.underlying9 Try.underlying24 (HZ.out _) hm hmax hkv
            have hr2 := run_kvFound (w := (wa.alloc (.cells #[.string ⟨#[]⟩, .string ⟨#[]⟩, .int .i64 0, .int .u32 0, .int .i64 0, .int .i64 0, .int .i64 0] 34)).drew) Try.underlying9 Try.underlying24 (HZ.out _) (ownsKV_alloc hm _) hmax hkv
            have HEQ := Lib.hid (show addH pack L hd = L by unfold addH; rw [hget]; rfl)
            unfold plV plC at hr1 hr2
            clear hm hkv hget hmax
            have HBW := Lib.hid fun (o : Obj) => ((Below.refl wa.heap.size wa).alloc (Nat.le_refl _) o).drew
            go_region
            all_goals
              go_wp2
              go_roundw
              case rel => exact ⟨k + 1, by go_num, by omega, by rw [HTK.out, HEQ.out]; exact HIA.out.below (HBW.out _), HGA.out.below (HBW.out _), HGDA.out.below (HBW.out _)⟩
              case measure => simp [intOf]; omega
          | none =>
            have hkv : kvGet (kvMap plV L) hd.name = none := by rw [kvGet_map, hget]; rfl
            have hr1 := run_kvNone (w := wa.drew) Try.underlying9 Try.underlying24 (HZ.out _) hm hmax hkv
            have hr2 := run_kvNone (w := (wa.alloc (.cells #[.string ⟨#[]⟩, .string ⟨#[]⟩, .int .i64 0, .int .u32 0, .int .i64 0, .int .i64 0, .int .i64 0] 34)).drew) Try.underlying9 Try.underlying24 (HZ.out _) (ownsKV_alloc hm _) hmax hkv
            have HEQ := Lib.hid (show addH pack L hd = kvPut L hd.name ⟨pack, hd⟩ by unfold addH; rw [hget]; rfl)
            have HMX := Lib.hid hmax
            have hbw := ((Below.refl wa.heap.size wa).alloc (Nat.le_refl _) (.cells #[.string ⟨#[]⟩, .string ⟨#[]⟩, .int .i64 0, .int .u32 0, .int .i64 0, .int .i64 0, .int .i64 0] 34)).drew
            have HIB := Lib.hid (HIA.out.below hbw)
            have HGB := Lib.hid (HGA.out.below hbw)
            have HGDB := Lib.hid (HGDA.out.below hbw)
            have HKB := Lib.hid (HKA.out.below hbw HKA.out.lt)
            clear hm hkv hget hmax hbw
            go_region
            all_goals
              clear hr1 hr2 a0 c0 HIA HGA HGDA HKA
              go_upto_region 9 with fail
              generalize (wa.alloc (.cells #[.string ⟨#[]⟩, .string ⟨#[]⟩, .int .i64 0, .int .u32 0, .int .i64 0, .int .i64 0, .int .i64 0] 34)).drew = wb at *
              have a0 : wb.cell? ⟨wr.heap.size, 0, none⟩ = some (.string hd.name) := HKB.out.cell 0
              have a1 : wb.cell? ⟨wr.heap.size, 1, none⟩ = some (.int .i64 hd.method) := HKB.out.cell 1
              have a2 : wb.cell? ⟨wr.heap.size, 2, none⟩ = some (.int .u32 hd.crc) := HKB.out.cell 2
              have a3 : wb.cell? ⟨wr.heap.size, 3, none⟩ = some (.int .i64 hd.packed) := HKB.out.cell 3
              have a4 : wb.cell? ⟨wr.heap.size, 4, none⟩ = some (.int .i64 hd.size) := HKB.out.cell 4
              have a5 : wb.cell? ⟨wr.heap.size, 5, none⟩ = some (.int .i64 hd.at_) := HKB.out.cell 5
              have c0 : wb.cell? ⟨b, 0, none⟩ = some (.map (some m2)) := by
                obtain ⟨_, _, hk', _⟩ := HIB.out
                exact hk'.cell 0
              have hm : ownsKV wb.drew Try.prog 9 m2 (kvMap plV L) := by
                obtain ⟨_, _, _, _, _, _, hm⟩ := HIB.out
                exact hm
              obtain ⟨w5, hrun5, hown5, hg5⟩ := run_kvStore (w := wb.drew) Try.underlying9 Try.underlying24 hm (by rw [kvMap_len]; omega) (u := plV ⟨pack, hd⟩) HMX.out
              rw [kvPut_map] at hown5
              unfold plV plC at hrun5
              have HS5 := Lib.hid (ix_put HIB.out hown5 hg5)
              clear hm hown5 hg5
              go_region
              all_goals
                go_wp2
                go_roundw
                case rel => exact ⟨k + 1, by go_num, by omega, by rw [HTK.out, HEQ.out]; exact HS5.out.1, HGB.out.trans HS5.out.2, HGDB.out.trans HS5.out.2⟩
                case measure => simp [intOf]; omega
        · have hek : k = hs.length := by omega
          have HF := Lib.hid (show AddPost b mb rb X pack hs w (.returned (.tuple #[])) wr from ⟨rfl, some m2, rb2, by
            have := HIR.out
            rw [hek, List.take_length] at this
            unfold Ix.add
            rw [HPK.out]
            exact this, HGR.out⟩)
          go_wp2
          go_end0
          exact HF.out
end Go.Proofs.Ytopmanmjggcfaaa
