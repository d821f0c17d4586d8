/- The document's index: Add. -/
import Derived.Test.YtopmanmjggcfaaaJb
import Derived.Deep.DeepCutAuto
import Derived.Deep.RegionLaw
namespace Go.Proofs.Ytopmanmjggcfaaa
open Go.RowKit

theorem infoPl : (Try.prog.info? 50).map (fun i => (i.zero, i.size, i.bytes)) = some (some (.agg #[.string ⟨#[]⟩, .string ⟨#[]⟩, .int .i64 0, .int .u32 0, .int .i64 0, .int .i64 0, .int .i64 0]), 7, 72) := by kernel_rfl
def plsC (L : List Pl) : List Value := (L.map plC).flatten
theorem plsC_snoc (L : List Pl) (p : Pl) : plsC (L ++ [p]) = plsC L ++ plC p := by unfold plsC; simp
theorem own_pls {w : World} {B n c : Nat} {t : TypeId} {A : Option Addr} {L : List Pl} (h : w.ownsRow B t 7 (.slice A n c) n (plsC L)) : RowA w w.heap.size 7 A (L.map plC) ∧ n = L.length := by
  have := own_rowA (l := L.map plC) (by decide) (fun x hx => by obtain ⟨p, _, rfl⟩ := List.mem_map.1 hx; rfl) h
  rwa [List.length_map] at this
/-- a row that lies elsewhere than in block b -/
def RowN (w : World) (b k : Nat) (A : Option Addr) (l : List (List Value)) : Prop := RowA w w.heap.size k A l ∧ (0 < l.length → ∀ g o, A = some ⟨g, o, none⟩ → g ≠ b ∧ g ≠ b + 1)
def StrsN (w : World) (b : Nat) (A : Option Addr) (l : List ByteArray) : Prop := StrsA w w.heap.size A l ∧ (0 < l.length → ∀ g o, A = some ⟨g, o, none⟩ → g ≠ b ∧ g ≠ b + 1)
theorem RowN.below {w w' : World} {b k : Nat} {A : Option Addr} {l : List (List Value)} (h : RowN w b k A l) (hb : Below w.heap.size w w') : RowN w' b k A l := ⟨h.1.below hb, h.2⟩
theorem StrsN.below {w w' : World} {b : Nat} {A : Option Addr} {l : List ByteArray} (h : StrsN w b A l) (hb : Below w.heap.size w w') : StrsN w' b A l := ⟨h.1.below hb, h.2⟩
theorem RowN.set_ {w : World} {b k p : Nat} {A : Option Addr} {l : List (List Value)} (h : RowN w b k A l) (hp : p = b ∨ p = b + 1) (i : Nat) (u : Value) : RowN (w.setCell ⟨p, i, none⟩ u) b k A l := by
  refine ⟨fun hl => ?_, h.2⟩
  obtain ⟨g, o, rfl, h2, h3⟩ := h.1 hl
  refine ⟨g, o, rfl, by rw [World.size_setCell]; exact h2, fun i c hc j u hj => ?_⟩
  rw [← h3 i c hc j u hj]
  exact World.cell?_of_block (Below.heap_setCell _ _ _ _ (by have := h.2 hl g o rfl; show g ≠ p; omega))
theorem StrsN.set_ {w : World} {b p : Nat} {A : Option Addr} {l : List ByteArray} (h : StrsN w b A l) (hp : p = b ∨ p = b + 1) (i : Nat) (u : Value) : StrsN (w.setCell ⟨p, i, none⟩ u) b A l := by
  refine ⟨fun hl => ?_, h.2⟩
  obtain ⟨g, o, rfl, h2, h3⟩ := h.1 hl
  refine ⟨g, o, rfl, by rw [World.size_setCell]; exact h2, fun j u hj => ?_⟩
  rw [← h3 j u hj]
  exact World.cell?_of_block (Below.heap_setCell _ _ _ _ (by have := h.2 hl g o rfl; show g ≠ p; omega))
theorem RowN.old {w w' : World} {k : Nat} {A : Option Addr} {l : List (List Value)} (h : RowA w w.heap.size k A l) (hb : Below w.heap.size w w') : RowN w' w.heap.size k A l := ⟨h.below hb, fun hl g o e => by
  obtain ⟨g', o', h1, h2, _⟩ := h hl
  rw [e] at h1
  injection h1 with h1
  injection h1 with h1
  constructor <;> omega⟩
theorem StrsN.old {w w' : World} {A : Option Addr} {l : List ByteArray} (h : StrsA w w.heap.size A l) (hb : Below w.heap.size w w') : StrsN w' w.heap.size A l := ⟨h.below hb, fun hl g o e => by
  obtain ⟨g', o', h1, h2, _⟩ := h hl
  rw [e] at h1
  injection h1 with h1
  injection h1 with h1
  constructor <;> omega⟩
theorem StrsN.own {w : World} {B b n c : Nat} {A : Option Addr} {l : List ByteArray} (h : w.ownsRow B 9 1 (.slice A n c) n (strsV l)) (hb : b + 1 < B) : StrsN w b A l := ⟨(own_strs h).1, fun hl g o e => by
  obtain ⟨g', h1, h2, _⟩ := own_strs2 h hl
  rw [e] at h1
  injection h1 with h1
  injection h1 with h1
  constructor <;> omega⟩
theorem own_block {w : World} {B n k g o c : Nat} {t : TypeId} {xs : List Value} (h : w.ownsRow B t k (.slice (some ⟨g, o, none⟩) n c) n xs) : B ≤ g := (h.lt g rfl).1
theorem RowN.own {w : World} {B b n c : Nat} {t : TypeId} {A : Option Addr} {L : List Pl} (h : w.ownsRow B t 7 (.slice A n c) n (plsC L)) (hb : b + 1 < B) : RowN w b 7 A (L.map plC) := ⟨(own_pls h).1, fun hl g o e => by
  subst e
  have := own_block h
  constructor <;> omega⟩
/-- the document's index, in its box -/
def NewAt (w0 w : World) (A0 A : Option Addr) : Prop := A = A0 ∨ ∀ g o, A = some ⟨g, o, none⟩ → w0.heap.size ≤ g ∧ g < w.heap.size
theorem NewAt.own {w0 w : World} {A0 A : Option Addr} {B k n c : Nat} {t : TypeId} {xs : List Value} (h : w.ownsRow B t k (.slice A n c) n xs) (hb : w0.heap.size ≤ B) : NewAt w0 w A0 A := .inr fun g o e => by
  subst e
  exact ⟨Nat.le_trans hb (own_block h), (h.lt g rfl).2⟩
theorem NewAt.mono {w0 w w' : World} {A0 A : Option Addr} (h : NewAt w0 w A0 A) (hs : w.heap.size ≤ w'.heap.size) : NewAt w0 w' A0 A := h.imp id fun h g o e => ⟨(h g o e).1, Nat.lt_of_lt_of_le (h g o e).2 hs⟩
structure RxBox (w0 w : World) (b : Nat) (P : List ByteArray) (L : List Pl) (A0 B0 : Option Addr) (A : Option Addr) (c : Nat) (B : Option Addr) (d : Nat) : Prop where
  blk : Blk w b 43 #[.slice A P.length c, .slice B L.length d]
  res : Blk w (b + 1) 43 #[.slice none 0 0, .slice none 0 0]
  st : StrsN w b A P
  nl : A = none → c = 0
  row : RowN w b 7 B (L.map plC)
  lo : w0.heap.size ≤ b
  bel : Below w0.heap.size w0 w
  na : NewAt w0 w A0 A
  nb : NewAt w0 w B0 B
theorem RxBox.below {w0 w w' : World} {b : Nat} {P : List ByteArray} {L : List Pl} {A0 B0 A B : Option Addr} {c d : Nat} (h : RxBox w0 w b P L A0 B0 A c B d) (hb : Below w.heap.size w w') : RxBox w0 w' b P L A0 B0 A c B d :=
  ⟨h.blk.below hb h.blk.lt, h.res.below hb h.res.lt, h.st.below hb, h.nl, h.row.below hb, h.lo, h.bel.trans (hb.mono h.bel.size), h.na.mono hb.size, h.nb.mono hb.size⟩
theorem RxBox.setL {w0 w : World} {b : Nat} {P : List ByteArray} {L L' : List Pl} {A0 B0 A B B' : Option Addr} {c d d' n : Nat} (h : RxBox w0 w b P L A0 B0 A c B d) (hr : RowN w b 7 B' (L'.map plC)) (hnw : NewAt w0 w B0 B') (hn : n = L'.length) : RxBox w0 (w.setCell ⟨b, 1, none⟩ (.slice B' n d')) b P L' A0 B0 A c B' d' := by
  subst hn
  refine ⟨?_, h.res.far (by simp) _, h.st.set_ (.inl rfl) _ _, h.nl, hr.set_ (.inl rfl) _ _, h.lo, h.bel.setCell (p := ⟨b, 1, none⟩) h.lo _, h.na.mono (by rw [World.size_setCell]; exact Nat.le_refl _), hnw.mono (by rw [World.size_setCell]; exact Nat.le_refl _)⟩
  have := h.blk.set_ 1 (.slice B' L'.length d')
  simpa using this
theorem RxBox.setP {w0 w : World} {b : Nat} {P P' : List ByteArray} {L : List Pl} {A0 B0 A A' B : Option Addr} {c c' d n : Nat} (h : RxBox w0 w b P L A0 B0 A c B d) (hr : StrsN w b A' P') (hnl : A' = none → c' = 0) (hnw : NewAt w0 w A0 A') (hn : n = P'.length) : RxBox w0 (w.setCell ⟨b, 0, none⟩ (.slice A' n c')) b P' L A0 B0 A' c' B d := by
  subst hn
  refine ⟨?_, h.res.far (by simp) _, hr.set_ (.inl rfl) _ _, hnl, h.row.set_ (.inl rfl) _ _, h.lo, h.bel.setCell (p := ⟨b, 0, none⟩) h.lo _, hnw.mono (by rw [World.size_setCell]; exact Nat.le_refl _), h.nb.mono (by rw [World.size_setCell]; exact Nat.le_refl _)⟩
  have := h.blk.set_ 0 (.slice A' P'.length c')
  simpa using this
def RAddPost (P : List ByteArray) (L : List Pl) (A0 B0 : Option Addr) (pack : ByteArray) (hs : List Hd) (w : World) (e : Ending) (w' : World) : Prop :=
  ∃ A' c' B' d', e = .returned (rixV (addP P pack) (hs.foldl (addR pack) L) A' c' B' d') ∧ StrsA w' w'.heap.size A' (addP P pack) ∧ (A' = none → c' = 0) ∧ RowA w' w'.heap.size 7 B' ((hs.foldl (addR pack) L).map plC) ∧ Below w.heap.size w w' ∧ NewAt w w' A0 A' ∧ NewAt w w' B0 B'
/-- while a place is being inserted -/
def InsSt (p : Pl) (L : List Pl) (j : Nat) (out : List Pl) (dn : Bool) : Prop := (dn = true → out ++ L.drop j = insR p L) ∧ (dn = false → out = L.take j ∧ ∀ q ∈ L.take j, ¬ p.head.name.data.toList < q.head.name.data.toList)
theorem InsSt.start (p : Pl) (L : List Pl) : InsSt p L 0 [] false := ⟨(fun h => by cases h), fun _ => ⟨rfl, fun q hq => by simp at hq⟩⟩
theorem InsSt.done {p : Pl} {L : List Pl} {j : Nat} {out : List Pl} (h : InsSt p L j out true) (hj : j < L.length) : InsSt p L (j + 1) (out ++ [L[j]]) true := by
  refine ⟨fun _ => ?_, fun h => by cases h⟩
  have := h.1 rfl
  rw [List.drop_eq_getElem_cons hj] at this
  rw [← this]
  simp
theorem InsSt.hit {p : Pl} {L : List Pl} {j : Nat} {out : List Pl} (h : InsSt p L j out false) (hj : j < L.length) (hp : p.head.name.data.toList < L[j].head.name.data.toList) : InsSt p L (j + 1) (out ++ [p] ++ [L[j]]) true := by
  refine ⟨fun _ => ?_, fun h => by cases h⟩
  obtain ⟨rfl, h2⟩ := h.2 rfl
  rw [insR_hit hj h2 hp]
  simp
theorem InsSt.miss {p : Pl} {L : List Pl} {j : Nat} {out : List Pl} (h : InsSt p L j out false) (hj : j < L.length) (hp : ¬ p.head.name.data.toList < L[j].head.name.data.toList) : InsSt p L (j + 1) (out ++ [L[j]]) false := by
  refine ⟨(fun h => by cases h), fun _ => ?_⟩
  obtain ⟨rfl, h2⟩ := h.2 rfl
  refine ⟨(List.take_succ_eq_append_getElem hj).symm, ?_⟩
  rw [List.take_succ_eq_append_getElem hj]
  intro q hq
  rcases List.mem_append.1 hq with e | e
  · exact h2 q e
  · have : q = L[j] := by simpa using e
    rw [this]; exact hp
theorem InsSt.end_ {p : Pl} {L : List Pl} {out : List Pl} {dn : Bool} (h : InsSt p L L.length out dn) : (if dn = true then out else out ++ [p]) = insR p L := by
  cases dn with
  | true => rw [if_pos rfl, ← h.1 rfl, List.drop_length, List.append_nil]
  | false =>
    obtain ⟨h1, h2⟩ := h.2 rfl
    rw [List.take_length] at h1 h2
    rw [if_neg (by simp), h1, insR_end h2]
theorem rxBox_made {P : List ByteArray} {L : List Pl} {A B : Option Addr} {c d : Nat} {w : World} (hst : StrsA w w.heap.size A P) (hnl : A = none → c = 0) (hro : RowA w w.heap.size 7 B (L.map plC)) :
    RxBox w ((w.alloc (.cells #[.slice A P.length c, .slice B L.length d] 43)).alloc (.cells #[.slice none 0 0, .slice none 0 0] 43)) w.heap.size P L A B A c B d := by
  have hb : Below w.heap.size w ((w.alloc (.cells #[.slice A P.length c, .slice B L.length d] 43)).alloc (.cells #[.slice none 0 0, .slice none 0 0] 43)) := ((Below.refl _ w).alloc (Nat.le_refl _) _).alloc (by simp) _
  have hr := Blk.new (w.alloc (.cells #[.slice A P.length c, .slice B L.length d] 43)) 43 #[.slice none 0 0, .slice none 0 0]
  rw [World.size_alloc] at hr
  exact ⟨(Blk.new w _ _).alloc _, hr, StrsN.old hst hb, hnl, RowN.old hro hb, Nat.le_refl _, hb, .inl rfl, .inl rfl⟩
set_option maxRecDepth 100000 in
set_option maxHeartbeats 3200000 in
theorem radd_any (P : List ByteArray) (L : List Pl) (A B : Option Addr) (c d : Nat) (pack : ByteArray) (H : Option Addr) (hc : Nat) (hs : List Hd) (w : World) (hst : StrsA w w.heap.size A P) (hnl : A = none → c = 0) (hro : RowA w w.heap.size 7 B (L.map plC))
    (hh : RowA w w.heap.size 6 H (hs.map hdC)) (hP : P.length ≤ 1000000) (hL : L.length ≤ 1000000) (hhl : hs.length ≤ 1000) :
    Calls Try.prog 12 #[rixV P L A c B d, .string pack, .slice H hs.length hc] w fun e w' => RAddPost P L A B pack hs w e w' := by
  have HX := Lib.hid (rxBox_made (d := d) hst hnl hro)
  have HH := Lib.hid hh
  have HNU := Lib.hid fun W h => rnumber_any P L A B c d pack W h (by omega)
  unfold rixV at *
  clear hst hnl hro hh
  go_enter Try.func12, Try.ntmps12
  go_wp2_with fail
  refine (HNU.out _ HX.out.st.1).mono ?_
  rintro e w1 ⟨rfl, hb1⟩
  have HX1 := Lib.hid (HX.out.below hb1)
  have HNP := Lib.hid (show (hasP P pack = true → 0 ≤ numP P pack) ∧ (hasP P pack = false → numP P pack = -1) from ⟨fun h => by unfold numP; rw [if_pos h]; omega, numP_no⟩)
  have HAP := Lib.hid (show addP P pack = if hasP P pack = true then P else P ++ [pack] from rfl)
  clear hb1 HX HNU
  generalize hPK : addP P pack = PK at *
  generalize numP P pack = np at *
  go_upto_if 18 with fail
  go_cut [] (fun wc => ∃ A' c', RxBox w wc w.heap.size PK L A B A' c' B d)
  case first =>
    cases hp : hasP P pack with
    | true =>
      rw [hp] at HNP HAP
      have hq : 0 ≤ np := HNP.out.1 rfl
      have HE := Lib.hid (show PK = P from HAP.out.trans (if_pos rfl))
      clear hp
      go_wp2_with fail
      go_meet
      rw [HE.out]
      exact ⟨A, c, HX1.out⟩
    | false =>
      rw [hp] at HNP HAP
      have hq : np < 0 := by have := HNP.out.2 rfl; omega
      have HE := Lib.hid (show PK = P ++ [pack] from HAP.out.trans (if_neg (by simp)))
      clear hp
      have HXA := Lib.hid (HX1.out.below ((Below.refl w1.heap.size w1).alloc (Nat.le_refl _) (.cells #[] 9)))
      have hown : (w1.alloc (.cells #[] 9)).ownsRow w1.heap.size 9 1 (.slice (some ⟨w1.heap.size, 0, none⟩) 0 0) 0 [] := by
        have := World.ownsRow_lit (e := 9) (size := 1) (base := w1.heap.size) w1 #[] 0 (by simp) (by decide) rfl
        exact this
      have c0 : w1.cell? ⟨w.heap.size, 0, none⟩ = some (.slice A P.length c) := HX1.out.blk.cell 0
      have hlt : w.heap.size < w1.heap.size := HX1.out.blk.lt
      have HO := Lib.hid hown
      clear hown
      go_upto_region 2 with fail
      go_wp2_with (first
        | (at_builtin; refine wpList_appStrs rfl _ _ rfl w1.heap.size _ 0 [] rfl HO.out A c P rfl HXA.out.st.1 HXA.out.nl (by omega) (by simp) ?_; intro A5 c5 w5 ho5 hg5 hn5 hl5; rw [Nat.zero_add, List.nil_append] at ho5; have HB5 := Lib.hid (((Below.refl _ w1).alloc (Nat.le_refl _) _).grown hg5 (by simp) (fun j hj => (HO.out.lt j hj).1)); clear hg5 hn5 hl5)
        | (at_builtin; refine wpList_app1 rfl _ _ 25 rfl w1.heap.size 9 Try.underlying25 infoS rfl (by decide) _ _ _ rfl ho5 _ rfl rfl (oneCell_string _) (by omega) (by omega) HB5.out.size ?_; intro g6 cap6 w6 ho6 hg6 hb6 hl6; have HX6 := Lib.hid (HX1.out.below (HB5.out.trans hb6)); have c6 : w6.cell? ⟨w.heap.size, 0, none⟩ = some (.slice A P.length c) := HX6.out.blk.cell 0; have f6 : w6.frozen? ⟨w.heap.size, 0, none⟩ = false := HX6.out.blk.frozen 0; clear hg6 hb6 hl6))
      go_meet
      rw [HE.out]
      have e2 : strsV (P ++ [pack]) = strsV P ++ [.string pack] := by simp [strsV]
      rw [← e2] at ho6
      exact ⟨some ⟨g6, 0, none⟩, cap6, HX6.out.setP (StrsN.own ho6 HX1.out.res.lt) (fun h => by cases h) (NewAt.own ho6 (Nat.le_of_lt hlt)) (by simp)⟩
  case rest =>
    obtain ⟨wo, rfl⟩ : ∃ wo : World, wo = wc := ⟨_, rfl⟩
    obtain ⟨A1, c1, hx1⟩ := hcut
    have HXC := Lib.hid hx1
    clear hx1 HX1 HNP HAP
    have HPK := Lib.hid hPK
    clear hPK
    obtain ⟨i0, hi0, hz0, hz1, hz2⟩ := info_parts infoPl
    go_wp2
    go_loopw [29] (fun i wr => ∃ (k : Nat) (B1 : Option Addr) (d1 : Nat), i = .int .i64 (k : Nat) ∧ k ≤ hs.length ∧ RxBox w wr w.heap.size PK ((hs.take k).foldl (addR pack) L) A B A1 c1 B1 d1) (fun i _ => hs.length - (intOf i).toNat)
    case atStart => exact ⟨0, B, d, rfl, Nat.zero_le _, HXC.out⟩
    case round =>
      obtain ⟨k, B1, d1, rfl, hk, hx⟩ := hrel
      have HXR := Lib.hid hx
      clear hx HXC
      by_cases hkl : k < hs.length
      · have hek := List.getElem?_eq_getElem hkl
        have HTK := Lib.hid (show (hs.take (k + 1)).foldl (addR pack) L = addR pack ((hs.take k).foldl (addR pack) L) hs[k] by rw [List.take_succ_eq_append_getElem hkl, List.foldl_append]; rfl)
        have hlen := adds_len (pack := pack) (hs.take k) (keyed L)
        rw [← keyed_adds, keyed_len, keyed_len, List.length_take] at hlen
        obtain ⟨g, o, rfl, hgl, hcell⟩ := HH.out (by simp; omega)
        have hck := hcell k (hdC hs[k]) (by rw [List.getElem?_map, hek]; rfl)
        have HCK := Lib.hid fun (j : Nat) (u : Value) (hj : (hdC hs[k])[j]? = some u) => (HXR.out.bel.cell (p := ⟨g, o + k * 6 + j, none⟩) hgl).trans (hck j u hj)
        generalize hs[k] = hd at *
        generalize (hs.take k).foldl (addR pack) L = LK at *
        have q0 : wr.cell? ⟨g, o + k * 6, none⟩ = some (.string hd.name) := HCK.out 0 _ rfl
        have q1 : wr.cell? ⟨g, o + k * 6 + 1, none⟩ = some (.int .i64 hd.method) := HCK.out 1 _ rfl
        have q2 : wr.cell? ⟨g, o + k * 6 + 2, none⟩ = some (.int .u32 hd.crc) := HCK.out 2 _ rfl
        have q3 : wr.cell? ⟨g, o + k * 6 + 3, none⟩ = some (.int .i64 hd.packed) := HCK.out 3 _ rfl
        have q4 : wr.cell? ⟨g, o + k * 6 + 4, none⟩ = some (.int .i64 hd.size) := HCK.out 4 _ rfl
        have q5 : wr.cell? ⟨g, o + k * 6 + 5, none⟩ = some (.int .i64 hd.at_) := HCK.out 5 _ rfl
        have hk0 : (0 : Int) ≤ (k : Int) := by omega
        have hk1 : (k : Int) < (hs.length : Int) := by omega
        have hk3 : ((k : Int)).toNat = k := by omega
        clear hcell hck hek HCK
        go_upto_region 6 with fail
        have hba : Below wr.heap.size wr (wr.alloc (.cells #[.string hd.name, .int .i64 hd.method, .int .u32 hd.crc, .int .i64 hd.packed, .int .i64 hd.size, .int .i64 hd.at_] 47)) := (Below.refl _ _).alloc (Nat.le_refl _) _
        have hka := Blk.new wr 47 #[.string hd.name, .int .i64 hd.method, .int .u32 hd.crc, .int .i64 hd.packed, .int .i64 hd.size, .int .i64 hd.at_]
        have HXA := Lib.hid (HXR.out.below hba)
        clear hba q0 q1 q2 q3 q4 q5 HXR hk0 hk1 hk3
        generalize wr.alloc (.cells #[.string hd.name, .int .i64 hd.method, .int .u32 hd.crc, .int .i64 hd.packed, .int .i64 hd.size, .int .i64 hd.at_] 47) = wa at *
        have HKA := Lib.hid hka
        have a0 : wa.cell? ⟨wr.heap.size, 0, none⟩ = some (.string hd.name) := hka.cell 0
        have e0 : wa.cell? ⟨w.heap.size, 0, none⟩ = some (.slice A1 PK.length c1) := HXA.out.blk.cell 0
        have e1 : wa.cell? ⟨w.heap.size, 1, none⟩ = some (.slice B1 LK.length d1) := HXA.out.blk.cell 1
        have hFI := fun W h => rfind_any PK LK A1 B1 c1 d1 hd.name W h (by omega)
        unfold rixV plV plC at hFI
        have HFI := Lib.hid hFI
        clear hka hFI
        cases hget : kvGet (keyed LK) hd.name with
        | some p =>
          rw [hget] at HFI
          have HEQ := Lib.hid (show addR pack LK hd = LK by unfold addR; rw [hget]; rfl)
          clear hget
          go_wp2_with fail
          refine (HFI.out _ HXA.out.row.1).mono ?_
          rintro e w2 ⟨rfl, hb2⟩
          have HX2 := Lib.hid (HXA.out.below hb2)
          clear hb2
          go_wp2
          go_roundw
          case rel => exact ⟨k + 1, B1, d1, by go_num, by omega, by rw [HTK.out, HEQ.out]; exact HX2.out.below ((Below.refl _ _).alloc (Nat.le_refl _) _)⟩
          case measure => simp [intOf]; omega
        | none =>
          rw [hget] at HFI
          have HEQ := Lib.hid (show addR pack LK hd = insR ⟨pack, hd⟩ LK by unfold addR; rw [hget]; rfl)
          clear hget
          unfold noPl at HFI
          go_wp2_with fail
          refine (HFI.out _ HXA.out.row.1).mono ?_
          rintro e w2 ⟨rfl, hb2⟩
          have HX2 := Lib.hid (HXA.out.below hb2)
          have HK2 := Lib.hid (HKA.out.below hb2 HKA.out.lt)
          clear hb2 a0 e0 e1 HFI HXA HKA
          go_upto_region 8 with fail
          have hb3 : Below w2.heap.size w2 (w2.alloc (.cells #[.string ⟨#[]⟩, .string ⟨#[]⟩, .int .i64 0, .int .u32 0, .int .i64 0, .int .i64 0, .int .i64 0] 50)) := (Below.refl _ _).alloc (Nat.le_refl _) _
          have HX3 := Lib.hid (HX2.out.below hb3)
          have HK3 := Lib.hid (HK2.out.below hb3 HK2.out.lt)
          clear hb3 HX2 HK2
          generalize w2.alloc (.cells #[.string ⟨#[]⟩, .string ⟨#[]⟩, .int .i64 0, .int .u32 0, .int .i64 0, .int .i64 0, .int .i64 0] 50) = w3 at *
          have e1 : w3.cell? ⟨w.heap.size, 1, none⟩ = some (.slice B1 LK.length d1) := HX3.out.blk.cell 1
          have hlt3 : w.heap.size < w3.heap.size := HX3.out.blk.lt
          have HOW := Lib.hid (show (w3.alloc (.cells #[] 50)).ownsRow w3.heap.size 50 7 (.slice (some ⟨w3.heap.size, 0, none⟩) 0 0) 0 (plsC []) from
            World.ownsRow_lit (e := 50) (size := 7) (base := w3.heap.size) w3 #[] 0 (Nat.le_refl _) (by decide) rfl)
          have HBW := Lib.hid ((Below.refl w3.heap.size w3).alloc (Nat.le_refl _) (.cells #[] 50))
          obtain ⟨wq, rfl⟩ : ∃ wq : World, wq = wr := ⟨_, rfl⟩
          go_wp2
          go_loopw [11, 12, 45] (fun ov dv jv wi => ∃ (j : Nat) (out : List Pl) (dn : Bool) (A9 : Option Addr) (c9 : Nat), ov = .slice A9 out.length c9 ∧ dv = .bool dn ∧ jv = .int .i64 (j : Nat) ∧ j ≤ LK.length ∧ wi.ownsRow w3.heap.size 50 7 (.slice A9 out.length c9) out.length (plsC out) ∧ InsSt ⟨pack, hd⟩ LK j out dn ∧ Below w3.heap.size w3 wi ∧ out.length ≤ j + 1) (fun _ _ jv _ => LK.length - (intOf jv).toNat)
          case atStart => exact ⟨0, [], false, some ⟨w3.heap.size, 0, none⟩, 0, rfl, rfl, rfl, Nat.zero_le _, HOW.out, InsSt.start _ _, HBW.out, by simp⟩
          case round =>
            obtain ⟨j, out, dn, A9, c9, rfl, rfl, rfl, hj, hown, hins, hbi, hol⟩ := hrel
            have HO9 := Lib.hid hown
            have HIN := Lib.hid hins
            have HBI := Lib.hid hbi
            clear hown hins hbi HOW HBW e1
            by_cases hjl : j < LK.length
            · have hej := List.getElem?_eq_getElem hjl
              obtain ⟨gp, op, rfl, hgp, hpc⟩ := HX3.out.row.1 (by simp; omega)
              have hpk := hpc j (plC LK[j]) (by rw [List.getElem?_map, hej]; rfl)
              have HPC := Lib.hid fun (i : Nat) (u : Value) (hi : (plC LK[j])[i]? = some u) => (HBI.out.cell (p := ⟨gp, op + j * 7 + i, none⟩) hgp).trans (hpk i u hi)
              have HID := Lib.hid fun (h : dn = true) => (h ▸ HIN.out : InsSt ⟨pack, hd⟩ LK j out true).done hjl
              have HIH := Lib.hid fun (h : dn = false) => (h ▸ HIN.out : InsSt ⟨pack, hd⟩ LK j out false).hit hjl
              have HIM := Lib.hid fun (h : dn = false) => (h ▸ HIN.out : InsSt ⟨pack, hd⟩ LK j out false).miss hjl
              have hne := txt_ne LK[j].head.name hd.name
              have hbl : Op.bytesLess LK[j].head.name.toList hd.name.toList = decide (LK[j].head.name.data.toList < hd.name.data.toList) := by rw [ba_toList, ba_toList, less_lt]
              have HOJ := Lib.hid fun (h : dn = false) => show out.length ≤ j by rw [((h ▸ HIN.out : InsSt ⟨pack, hd⟩ LK j out false).2 rfl).1, List.length_take]; omega
              clear hpc hpk hej HIN
              generalize LK[j] = q at *
              have p0 : wr.cell? ⟨gp, op + j * 7, none⟩ = some (.string q.pack) := HPC.out 0 _ rfl
              have p1 : wr.cell? ⟨gp, op + j * 7 + 1, none⟩ = some (.string q.head.name) := HPC.out 1 _ rfl
              have p2 : wr.cell? ⟨gp, op + j * 7 + 2, none⟩ = some (.int .i64 q.head.method) := HPC.out 2 _ rfl
              have p3 : wr.cell? ⟨gp, op + j * 7 + 3, none⟩ = some (.int .u32 q.head.crc) := HPC.out 3 _ rfl
              have p4 : wr.cell? ⟨gp, op + j * 7 + 4, none⟩ = some (.int .i64 q.head.packed) := HPC.out 4 _ rfl
              have p5 : wr.cell? ⟨gp, op + j * 7 + 5, none⟩ = some (.int .i64 q.head.size) := HPC.out 5 _ rfl
              have p6 : wr.cell? ⟨gp, op + j * 7 + 6, none⟩ = some (.int .i64 q.head.at_) := HPC.out 6 _ rfl
              have hj0 : (0 : Int) ≤ (j : Int) := by omega
              have hj1 : (j : Int) < (LK.length : Int) := by omega
              have hj3 : ((j : Int)).toNat = j := by omega
              clear HPC
              go_upto_region 13 with fail
              have hbb : Below wr.heap.size wr (wr.alloc (.cells #[.string q.pack, .string q.head.name, .int .i64 q.head.method, .int .u32 q.head.crc, .int .i64 q.head.packed, .int .i64 q.head.size, .int .i64 q.head.at_] 50)) := (Below.refl _ _).alloc (Nat.le_refl _) _
              have HKB := Lib.hid (Blk.new wr 50 #[.string q.pack, .string q.head.name, .int .i64 q.head.method, .int .u32 q.head.crc, .int .i64 q.head.packed, .int .i64 q.head.size, .int .i64 q.head.at_])
              have HOB := Lib.hid (HO9.out.alloc (.cells #[.string q.pack, .string q.head.name, .int .i64 q.head.method, .int .u32 q.head.crc, .int .i64 q.head.packed, .int .i64 q.head.size, .int .i64 q.head.at_] 50))
              have HBB := Lib.hid (HBI.out.trans (hbb.mono HBI.out.size))
              have HL9 := Lib.hid (fun k (h : (Value.slice A9 out.length c9).ownBlock = some k) => (HO9.out.lt k h).2)
              clear hbb HO9 HBI p0 p1 p2 p3 p4 p5 p6 hj0 hj1 hj3
              generalize wr.alloc (.cells #[.string q.pack, .string q.head.name, .int .i64 q.head.method, .int .u32 q.head.crc, .int .i64 q.head.packed, .int .i64 q.head.size, .int .i64 q.head.at_] 50) = wb at *
              have b1 : wb.cell? ⟨wr.heap.size, 1, none⟩ = some (.string q.head.name) := HKB.out.cell 1
              have h0 : wb.cell? ⟨wq.heap.size, 0, none⟩ = some (.string hd.name) := (HK3.out.below HBB.out HK3.out.lt).cell 0
              have HX0 := Lib.hid (HK3.out.below HBB.out HK3.out.lt)
              cases dn with
              | true =>
                have HIZ := Lib.hid (HID.out rfl)
                clear HID HIH HIM HOJ
                go_upto_region 16 with fail
                clear b1 h0 hne hbl
                obtain ⟨wz, rfl⟩ : ∃ wz : World, wz = wb := ⟨_, rfl⟩
                have HKZ := HKB
                have HOZ := HOB
                have HBZ := HBB
                have k0 : wz.cell? ⟨wr.heap.size, 0, none⟩ = some (.string q.pack) := HKZ.out.cell 0
                have k1 : wz.cell? ⟨wr.heap.size, 1, none⟩ = some (.string q.head.name) := HKZ.out.cell 1
                have k2 : wz.cell? ⟨wr.heap.size, 2, none⟩ = some (.int .i64 q.head.method) := HKZ.out.cell 2
                have k3 : wz.cell? ⟨wr.heap.size, 3, none⟩ = some (.int .u32 q.head.crc) := HKZ.out.cell 3
                have k4 : wz.cell? ⟨wr.heap.size, 4, none⟩ = some (.int .i64 q.head.packed) := HKZ.out.cell 4
                have k5 : wz.cell? ⟨wr.heap.size, 5, none⟩ = some (.int .i64 q.head.size) := HKZ.out.cell 5
                have k6 : wz.cell? ⟨wr.heap.size, 6, none⟩ = some (.int .i64 q.head.at_) := HKZ.out.cell 6
                go_wp2_with (at_builtin; refine wpList_app1 rfl _ _ 41 rfl w3.heap.size 50 Try.underlying41 infoPl rfl (by decide) _ out.length (plsC out) rfl HOZ.out _ rfl rfl (by simp [Value.oneCell']) (by omega) (by omega) HBZ.out.size ?_)
                intro g9 cap9 w9 ho9 hg9 hb9 hl9
                have HO9 := Lib.hid ho9
                have HB9 := Lib.hid (HBZ.out.trans hb9)
                clear ho9 hg9 hb9 hl9 k0 k1 k2 k3 k4 k5 k6
                go_wp2
                go_roundw
                case rel => exact ⟨j + 1, out ++ [q], true, some ⟨g9, 0, none⟩, cap9, by simp, rfl, by go_num, by omega, by have := HO9.out; rw [plsC_snoc]; simpa [plC] using this, HIZ.out, HB9.out, by simp; omega⟩
                case measure => simp [intOf]; omega
              | false =>
                by_cases hlt : hd.name.data.toList < q.head.name.data.toList
                · rw [decide_eq_false (List.lt_asymm hlt)] at hbl
                  rw [decide_eq_false (fun e => lt_ne hlt e.symm)] at hne
                  have HIZ := Lib.hid (HIH.out rfl hlt)
                  have hoj := HOJ.out rfl
                  clear hlt HID HIH HIM HOJ
                  have h1 : wb.cell? ⟨wq.heap.size, 1, none⟩ = some (.int .i64 hd.method) := HX0.out.cell 1
                  have h2 : wb.cell? ⟨wq.heap.size, 2, none⟩ = some (.int .u32 hd.crc) := HX0.out.cell 2
                  have h3 : wb.cell? ⟨wq.heap.size, 3, none⟩ = some (.int .i64 hd.packed) := HX0.out.cell 3
                  have h4 : wb.cell? ⟨wq.heap.size, 4, none⟩ = some (.int .i64 hd.size) := HX0.out.cell 4
                  have h5 : wb.cell? ⟨wq.heap.size, 5, none⟩ = some (.int .i64 hd.at_) := HX0.out.cell 5
                  go_upto_region 14 with fail
                  go_wp2_with (at_builtin; refine wpList_app1 rfl _ _ 41 rfl w3.heap.size 50 Try.underlying41 infoPl rfl (by decide) _ out.length (plsC out) rfl HOB.out _ rfl rfl (by simp [Value.oneCell']) (by omega) (by omega) HBB.out.size ?_)
                  intro g7 cap7 wz ho7 hg7 hb7 hl7
                  have HOZ := Lib.hid (show wz.ownsRow w3.heap.size 50 7 (.slice (some ⟨g7, 0, none⟩) (out.length + 1) cap7) (out.length + 1) (plsC (out ++ [⟨pack, hd⟩])) by rw [plsC_snoc]; simpa [plC] using ho7)
                  have HBZ := Lib.hid (HBB.out.trans hb7)
                  have HKZ := Lib.hid (HKB.out.grown hg7 (fun e => absurd (HL9.out _ e.symm) (Nat.lt_irrefl _)))
                  clear ho7 hg7 hb7 hl7 h0 h1 h2 h3 h4 h5 b1
                  go_upto_region 16 with fail
                  have k0 : wz.cell? ⟨wr.heap.size, 0, none⟩ = some (.string q.pack) := HKZ.out.cell 0
                  have k1 : wz.cell? ⟨wr.heap.size, 1, none⟩ = some (.string q.head.name) := HKZ.out.cell 1
                  have k2 : wz.cell? ⟨wr.heap.size, 2, none⟩ = some (.int .i64 q.head.method) := HKZ.out.cell 2
                  have k3 : wz.cell? ⟨wr.heap.size, 3, none⟩ = some (.int .u32 q.head.crc) := HKZ.out.cell 3
                  have k4 : wz.cell? ⟨wr.heap.size, 4, none⟩ = some (.int .i64 q.head.packed) := HKZ.out.cell 4
                  have k5 : wz.cell? ⟨wr.heap.size, 5, none⟩ = some (.int .i64 q.head.size) := HKZ.out.cell 5
                  have k6 : wz.cell? ⟨wr.heap.size, 6, none⟩ = some (.int .i64 q.head.at_) := HKZ.out.cell 6
                  go_wp2_with (at_builtin; refine wpList_app1 rfl _ _ 41 rfl w3.heap.size 50 Try.underlying41 infoPl rfl (by decide) _ (out.length + 1) (plsC (out ++ [⟨pack, hd⟩])) rfl HOZ.out _ rfl rfl (by simp [Value.oneCell']) (by omega) (by omega) HBZ.out.size ?_)
                  intro g9 cap9 w9 ho9 hg9 hb9 hl9
                  have HO9 := Lib.hid ho9
                  have HB9 := Lib.hid (HBZ.out.trans hb9)
                  clear ho9 hg9 hb9 hl9 k0 k1 k2 k3 k4 k5 k6
                  go_wp2
                  go_roundw
                  case rel => exact ⟨j + 1, (out ++ [⟨pack, hd⟩]) ++ [q], true, some ⟨g9, 0, none⟩, cap9, by simp, rfl, by go_num, by omega, by have := HO9.out; rw [plsC_snoc]; simpa [plC] using this, HIZ.out, HB9.out, by simp; omega⟩
                  case measure => simp [intOf]; omega
                · have HIZ := Lib.hid (HIM.out rfl hlt)
                  have hcs : Op.bytesLess q.head.name.toList hd.name.toList = true ∨ (Op.bytesLess q.head.name.toList hd.name.toList = false ∧ (q.head.name.toList == hd.name.toList) = true) := by
                    rw [hbl, hne]
                    rcases lt_cases q.head.name hd.name with h | h | h
                    · exact .inl (decide_eq_true h)
                    · exact .inr ⟨decide_eq_false (by rw [h]; exact List.lt_irrefl _), decide_eq_true h⟩
                    · exact absurd h hlt
                  clear hlt HID HIH HIM hne hbl HOJ
                  rcases hcs with hcs | ⟨hcs, hcs2⟩
                  all_goals
                    go_upto_region 16 with fail
                    clear b1 h0
                    obtain ⟨wz, rfl⟩ : ∃ wz : World, wz = wb := ⟨_, rfl⟩
                    have HKZ := HKB
                    have HOZ := HOB
                    have HBZ := HBB
                    have k0 : wz.cell? ⟨wr.heap.size, 0, none⟩ = some (.string q.pack) := HKZ.out.cell 0
                    have k1 : wz.cell? ⟨wr.heap.size, 1, none⟩ = some (.string q.head.name) := HKZ.out.cell 1
                    have k2 : wz.cell? ⟨wr.heap.size, 2, none⟩ = some (.int .i64 q.head.method) := HKZ.out.cell 2
                    have k3 : wz.cell? ⟨wr.heap.size, 3, none⟩ = some (.int .u32 q.head.crc) := HKZ.out.cell 3
                    have k4 : wz.cell? ⟨wr.heap.size, 4, none⟩ = some (.int .i64 q.head.packed) := HKZ.out.cell 4
                    have k5 : wz.cell? ⟨wr.heap.size, 5, none⟩ = some (.int .i64 q.head.size) := HKZ.out.cell 5
                    have k6 : wz.cell? ⟨wr.heap.size, 6, none⟩ = some (.int .i64 q.head.at_) := HKZ.out.cell 6
                    go_wp2_with (at_builtin; refine wpList_app1 rfl _ _ 41 rfl w3.heap.size 50 Try.underlying41 infoPl rfl (by decide) _ out.length (plsC out) rfl HOZ.out _ rfl rfl (by simp [Value.oneCell']) (by omega) (by omega) HBZ.out.size ?_)
                    intro g9 cap9 w9 ho9 hg9 hb9 hl9
                    have HO9 := Lib.hid ho9
                    have HB9 := Lib.hid (HBZ.out.trans hb9)
                    clear ho9 hg9 hb9 hl9 k0 k1 k2 k3 k4 k5 k6
                    go_wp2
                    go_roundw
                    case rel => exact ⟨j + 1, out ++ [q], false, some ⟨g9, 0, none⟩, cap9, by simp, rfl, by go_num, by omega, by have := HO9.out; rw [plsC_snoc]; simpa [plC] using this, HIZ.out, HB9.out, by simp; omega⟩
                    case measure => simp [intOf]; omega
            · have hej : j = LK.length := by omega
              subst hej
              have HEN := Lib.hid HIN.out.end_
              have HXI := Lib.hid (HX3.out.below HBI.out)
              have hqk : Blk wr wq.heap.size 47 #[.string hd.name, .int .i64 hd.method, .int .u32 hd.crc, .int .i64 hd.packed, .int .i64 hd.size, .int .i64 hd.at_] := HK3.out.below HBI.out HK3.out.lt
              clear HIN
              have hle : LK.length ≤ 1001000 := by omega
              cases dn with
              | true =>
                have HE := Lib.hid (show insR ⟨pack, hd⟩ LK = out from HEN.out.symm.trans (if_pos rfl))
                have c1' : wr.cell? ⟨w.heap.size, 1, none⟩ = some (.slice B1 LK.length d1) := HXI.out.blk.cell 1
                have f1' : wr.frozen? ⟨w.heap.size, 1, none⟩ = false := HXI.out.blk.frozen 1
                clear hqk HEN
                go_wp2
                go_roundw
                case rel => exact ⟨k + 1, A9, c9, by go_num, by omega, by rw [HTK.out, HEQ.out, HE.out]; exact HXI.out.setL (RowN.own HO9.out HX3.out.res.lt) (NewAt.own HO9.out (Nat.le_of_lt hlt3)) rfl⟩
                case measure => simp [intOf]; omega
              | false =>
                have HE := Lib.hid (show insR ⟨pack, hd⟩ LK = out ++ [⟨pack, hd⟩] from HEN.out.symm.trans (if_neg (by simp)))
                have h0 : wr.cell? ⟨wq.heap.size, 0, none⟩ = some (.string hd.name) := hqk.cell 0
                have h1 : wr.cell? ⟨wq.heap.size, 1, none⟩ = some (.int .i64 hd.method) := hqk.cell 1
                have h2 : wr.cell? ⟨wq.heap.size, 2, none⟩ = some (.int .u32 hd.crc) := hqk.cell 2
                have h3 : wr.cell? ⟨wq.heap.size, 3, none⟩ = some (.int .i64 hd.packed) := hqk.cell 3
                have h4 : wr.cell? ⟨wq.heap.size, 4, none⟩ = some (.int .i64 hd.size) := hqk.cell 4
                have h5 : wr.cell? ⟨wq.heap.size, 5, none⟩ = some (.int .i64 hd.at_) := hqk.cell 5
                clear hqk HEN
                go_upto_region 19 with fail
                go_wp2_with (at_builtin; refine wpList_app1 rfl _ _ 41 rfl w3.heap.size 50 Try.underlying41 infoPl rfl (by decide) _ out.length (plsC out) rfl HO9.out _ rfl rfl (by simp [Value.oneCell']) (by omega) (by omega) HBI.out.size ?_)
                intro g9 cap9 w9 ho9 hg9 hb9 hl9
                have HO8 := Lib.hid (show w9.ownsRow w3.heap.size 50 7 (.slice (some ⟨g9, 0, none⟩) (out.length + 1) cap9) (out.length + 1) (plsC (out ++ [⟨pack, hd⟩])) by rw [plsC_snoc]; simpa [plC] using ho9)
                have HX9 := Lib.hid (HX3.out.below (HBI.out.trans hb9))
                have c1' : w9.cell? ⟨w.heap.size, 1, none⟩ = some (.slice B1 LK.length d1) := HX9.out.blk.cell 1
                have f1' : w9.frozen? ⟨w.heap.size, 1, none⟩ = false := HX9.out.blk.frozen 1
                clear ho9 hg9 hb9 hl9 h0 h1 h2 h3 h4 h5
                go_wp2
                go_roundw
                case rel => exact ⟨k + 1, some ⟨g9, 0, none⟩, cap9, by go_num, by omega, by rw [HTK.out, HEQ.out, HE.out]; have := HX9.out.setL (d' := cap9) (RowN.own HO8.out HX3.out.res.lt) (NewAt.own HO8.out (Nat.le_of_lt hlt3)) (n := out.length + 1) (by simp); simpa using this⟩
                case measure => simp [intOf]; omega
      · have hek : k = hs.length := by omega
        have HE := Lib.hid (show (hs.take k).foldl (addR pack) L = hs.foldl (addR pack) L by rw [hek, List.take_length])
        generalize (hs.take k).foldl (addR pack) L = LK at *
        have e0 : wr.cell? ⟨w.heap.size, 0, none⟩ = some (.slice A1 PK.length c1) := HXR.out.blk.cell 0
        have e1 : wr.cell? ⟨w.heap.size, 1, none⟩ = some (.slice B1 LK.length d1) := HXR.out.blk.cell 1
        have r0 : wr.cell? ⟨w.heap.size + 1, 0, none⟩ = some (.slice none 0 0) := HXR.out.res.cell 0
        have r1 : wr.cell? ⟨w.heap.size + 1, 1, none⟩ = some (.slice none 0 0) := HXR.out.res.cell 1
        have s0 := HXR.out.res.frozen 0
        have s1 := HXR.out.res.frozen 1
        go_wp2
        refine bodyPost_ret (v := .agg #[.slice A1 PK.length c1, .slice B1 LK.length d1]) (by simp [results, Try.results12, go_sem, r0, r1]) rfl ?_
        refine ⟨A1, c1, B1, d1, ?_, ?_, HXR.out.nl, ?_, (HXR.out.bel.setCell (p := ⟨w.heap.size + 1, 0, none⟩) (by simp) _).setCell (p := ⟨w.heap.size + 1, 1, none⟩) (by simp) _, HXR.out.na.mono (by rw [World.size_setCell, World.size_setCell]; exact Nat.le_refl _), HXR.out.nb.mono (by rw [World.size_setCell, World.size_setCell]; exact Nat.le_refl _)⟩
        · unfold rixV
          rw [HPK.out, HE.out]
        · rw [HPK.out]
          exact ((HXR.out.st.set_ (.inr rfl) 0 _).set_ (.inr rfl) 1 _).1
        · rw [← HE.out]
          exact ((HXR.out.row.set_ (.inr rfl) 0 _).set_ (.inr rfl) 1 _).1
end Go.Proofs.Ytopmanmjggcfaaa
