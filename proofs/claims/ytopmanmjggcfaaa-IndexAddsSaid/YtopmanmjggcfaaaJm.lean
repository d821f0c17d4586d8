/- The index's laws: IndexBack. -/
import Derived.Test.YtopmanmjggcfaaaJk
import Derived.Test.YtopmanmjggcfaaaJl
import Derived.Test.YtopmanmjggcfaaaJi
namespace Go.Proofs.Ytopmanmjggcfaaa
open Go.RowKit

theorem lowN_le (m : Int) : 0 ≤ lowN m ∧ lowN m ≤ 4294967295 := by
  unfold lowN bits
  simp only
  have h : (BitVec.ofInt IntKind.i64.bits m &&& BitVec.ofInt IntKind.i64.bits 65535).toNat ≤ 65535 := by
    rw [BitVec.toNat_and]
    exact Nat.le_trans Nat.and_le_right (by decide)
  rw [IntWalk.i64_in _ (by omega)]
  omega
theorem isHex_dig (p : Nat) (h : p < 16) : isHex (digN p) = true := by
  have key : ∀ p, p < 16 → isHex (digN p) = true := by decide
  exact key p h
theorem nm16_name (s : ByteArray) : isNameD (nm16 s) = true := by
  unfold isNameD nm16
  rw [Bool.and_eq_true]
  refine ⟨decide_eq_true (by rw [bs_size, nmL_len]), ?_⟩
  rw [bs_list]
  unfold allHex nmL
  rw [List.all_map, List.all_eq_true]
  intro i hi
  have hi' : i < 64 := List.mem_range.1 hi
  simp only [Function.comp_apply]
  have hp : (if i < 64 ∧ i < s.size then (s.data.toList.getD i 0).toNat % 16 else i % 16) < 16 := by split <;> omega
  generalize (if i < 64 ∧ i < s.size then (s.data.toList.getD i 0).toNat % 16 else i % 16) = p at *
  have h2 : digN p < 256 := by unfold digN; split <;> omega
  rw [UInt8.toNat_ofNat', Nat.mod_eq_of_lt h2]
  exact isHex_dig _ hp
/-- heads whose sums fit -/
def CrcOk (l : List Hd) : Prop := ∀ h ∈ l, 0 ≤ h.crc ∧ h.crc ≤ 4294967295
theorem fewHs_len (l : List Hd) : (fewHs l).length ≤ 12 := by unfold fewHs; rw [List.length_map, List.length_take]; omega
theorem fewHs_good {l : List Hd} (hl : CrcOk l) : ∀ g ∈ fewHs l, isNameD g.name = true ∧ HdB g := by
  intro g hg
  unfold fewHs at hg
  obtain ⟨h, hh, rfl⟩ := List.mem_map.1 hg
  have hc := hl h (List.mem_of_mem_take hh)
  refine ⟨nm16_name _, ?_⟩
  unfold HdB fewH
  simp only
  exact ⟨(lowN_le _).1, (lowN_le _).2, hc.1, hc.2, (lowN_le _).1, (lowN_le _).2, (lowN_le _).1, (lowN_le _).2, (lowN_le _).1, (lowN_le _).2⟩
theorem fewHs_sz {l : List Hd} (hl : CrcOk l) : ∀ g ∈ fewHs l, g.name.size ≤ 140737488355328 ∧ HdB g := fun g hg => ⟨by rw [name_size (fewHs_good hl g hg).1]; decide, (fewHs_good hl g hg).2⟩
/-- what few gives -/
def FewsPost (F : List Hd) (w : World) (e : Ending) (w' : World) : Prop := ∃ A c, e = .returned (.slice A F.length c) ∧ RowA w' w'.heap.size 6 A (F.map hdC) ∧ (∀ g o, A = some ⟨g, o, none⟩ → w.heap.size ≤ g) ∧ Below w.heap.size w w' ∧ F.length ≤ c
theorem fews_post (l : List Hd) (A : Option Addr) (c : Nat) (w : World) (hr : RowA w w.heap.size 6 A (l.map hdC)) (hl : l.length ≤ 9223372036854775807) :
    Calls Try.prog 7 #[.slice A l.length c] w (FewsPost (fewHs l) w) := by
  refine (fews_any l A c w hr hl).mono ?_
  rintro e w' ⟨v, rfl, ho, hb⟩
  obtain ⟨A', c', rfl, hc⟩ : ∃ A c, v = .slice A (fewHs l).length c ∧ (fewHs l).length ≤ c := by
    rcases ho.2 with ⟨hv, hn⟩ | ⟨g, cap, cur, hv, _, _, hc, _⟩
    · exact ⟨none, 0, by rw [hv, hn], by omega⟩
    · exact ⟨some ⟨g, 0, none⟩, cap, hv, hc⟩
  have hrow := own_rowA (l := (fewHs l).map hdC) (by decide) (fun x hx => by obtain ⟨p, _, rfl⟩ := List.mem_map.1 hx; rfl) ho
  refine ⟨A', c', rfl, hrow.1, ?_, hb, hc⟩
  rintro g o rfl
  exact (ho.lt g rfl).1
/-- an index of the call's own -/
structure OneIx (w0 w : World) (b : Nat) (mb rb : Option Nat) (X : Ix) : Prop where
  ix : IxAt w b mb rb X
  lo : ∀ k, IxF b mb rb k → w0.heap.size ≤ k
  bel : Below w0.heap.size w0 w
theorem OneIx.below {w0 w w' : World} {b : Nat} {mb rb : Option Nat} {X : Ix} (h : OneIx w0 w b mb rb X) (hb : Below w.heap.size w w') : OneIx w0 w' b mb rb X := ⟨h.ix.below hb, h.lo, h.bel.trans (hb.mono h.bel.size)⟩
theorem OneIx.made (w : World) : OneIx w (w.alloc (.cells #[.map none, .slice none 0 0] 27)) w.heap.size none none ⟨[], []⟩ :=
  ⟨ixAt_new w, (fun k h => by
    rcases h with rfl | e | e
    · exact Nat.le_refl _
    · cases e
    · cases e), (Below.refl _ w).alloc (Nat.le_refl _) _⟩
theorem go_new {b : Nat} {mb rb mb' rb' : Option Nat} {w w' : World} (h : IxGo b mb rb w w' mb' rb') : ∀ k, IxF b mb' rb' k → IxF b mb rb k ∨ w.heap.size ≤ k := by
  rintro k (rfl | e | e)
  · exact .inl (.inl rfl)
  · rcases h.2.1 with rfl | ⟨j, rfl, hj⟩
    · exact .inl (.inr (.inl e))
    · cases e; exact .inr hj
  · rcases h.2.2 with rfl | ⟨j, rfl, hj⟩
    · exact .inl (.inr (.inr e))
    · cases e; exact .inr hj
def OnePost (w0 : World) (b : Nat) (mb rb : Option Nat) (X : Ix) (w : World) (e : Ending) (w' : World) : Prop := e = .returned (.tuple #[]) ∧ ∃ mb' rb', OneIx w0 w' b mb' rb' X ∧ IxGo b mb rb w w' mb' rb'
theorem oneAdd {w0 w : World} {b : Nat} {mb rb : Option Nat} {X : Ix} {np nq : Nat} (h : OneIx w0 w b mb rb X) (hx : X.Few np nq) (hnp : np ≤ 1000) (hnq : nq ≤ 1000) (pack : ByteArray) (hs : List Hd) (A : Option Addr) (c : Nat)
    (hr : RowA w w.heap.size 6 A (hs.map hdC)) (hf : ∀ g o, A = some ⟨g, o, none⟩ → ¬ IxF b mb rb g) (hl : hs.length ≤ 1000) (hp : pack.size ≤ 140737488355328) (hh : ∀ g ∈ hs, g.name.size ≤ 140737488355328 ∧ HdB g) :
    Calls Try.prog 8 #[.pointer (some ⟨b, 0, none⟩), .string pack, .slice A hs.length c] w (OnePost w0 b mb rb (X.add pack hs) w) := by
  have h1 := hx.np
  have h2 := hx.nq
  refine (iadd_any b mb rb X pack hs A c w h.ix hr hf hl (by omega) (by omega) (by omega) (fun g hg => Nat.le_trans (hh g hg).1 (by decide))).mono ?_
  rintro e w' ⟨rfl, mb', rb', hi, hg⟩
  refine ⟨rfl, mb', rb', ⟨hi, ?_, h.bel.trans (hg.1.below h.bel.size fun k hk hf => ?_)⟩, hg⟩
  · intro k hk
    rcases go_new hg k hk with e | e
    · exact h.lo k e
    · exact Nat.le_trans h.bel.size e
  · exact absurd (h.lo k hf) (by omega)
/-- another index's blocks are left alone -/
theorem IxAt.apart {w w' : World} {b b2 : Nat} {mb rb mb' rb' mb2 rb2 : Option Nat} {X : Ix} (h : IxAt w b2 mb2 rb2 X) (hg : IxGo b mb rb w w' mb' rb') (ha : ∀ k, IxF b mb rb k → ¬ IxF b2 mb2 rb2 k) : IxAt w' b2 mb2 rb2 X ∧ ∀ k, IxF b mb' rb' k → ¬ IxF b2 mb2 rb2 k := by
  refine ⟨h.block fun k hk => hg.1.block k (h.lt k hk) (fun e => ha k e hk), fun k hk hk2 => ?_⟩
  rcases go_new hg k hk with e | e
  · exact ha k e hk2
  · exact absurd (h.lt k hk2) (by omega)
theorem RowA.apart {w w' : World} {b n : Nat} {mb rb mb' rb' : Option Nat} {A : Option Addr} {l : List (List Value)} (h : RowA w w.heap.size n A l) (hg : IxGo b mb rb w w' mb' rb') (ha : ∀ g o, A = some ⟨g, o, none⟩ → ¬ IxF b mb rb g) : RowA w' w'.heap.size n A l := h.at hg.1 ha
theorem fit_few {X : Ix} {np nq : Nat} (h : X.Few np nq) (h1 : np ≤ 1000) (h2 : nq ≤ 1000) (hs : ∀ t ∈ X.packs, t.size ≤ 64) (hn : ∀ p ∈ X.places, isNameD p.2.head.name = true) : X.Fit ∧ (encI X).length ≤ 1000000 := by
  have a := h.np
  have b := h.nq
  refine ⟨⟨h.ok, by omega, by omega, fun t ht => Nat.le_trans (hs t ht) (by decide), fun p hp => ⟨hn p hp, (h.sq p hp).2⟩⟩, ?_⟩
  exact Nat.le_trans (enc_bound 64 (by omega) (by omega) hs fun p hp => by rw [name_size (hn p hp)]; exact Nat.le_refl _) (by decide)
theorem names_add {X : Ix} {pack : ByteArray} {hs : List Hd} (h : ∀ p ∈ X.places, isNameD p.2.head.name = true) (hh : ∀ g ∈ hs, isNameD g.name = true) : ∀ p ∈ (X.add pack hs).places, isNameD p.2.head.name = true := by
  intro p hp
  rcases adds_mem hs (show p ∈ hs.foldl (addH pack) X.places from hp) with e | ⟨g, hg, rfl⟩
  · exact h p e
  · exact hh g hg
def tOne : ByteArray := ⟨#[111, 110, 101]⟩
def tTwo : ByteArray := ⟨#[116, 119, 111]⟩
def tThree : ByteArray := ⟨#[116, 104, 114, 101, 101]⟩
set_option maxRecDepth 100000 in
set_option maxHeartbeats 3200000 in
theorem back_all (l1 l2 : List Hd) (A1 A2 : Option Addr) (c1 c2 : Nat) (w : World) (h1 : RowA w w.heap.size 6 A1 (l1.map hdC)) (h2 : RowA w w.heap.size 6 A2 (l2.map hdC)) (z1 : l1.length ≤ 9223372036854775807) (z2 : l2.length ≤ 9223372036854775807) (k1 : CrcOk l1) (k2 : CrcOk l2) :
    Calls Try.prog 6 #[.slice A1 l1.length c1, .slice A2 l2.length c2] w fun e w' => e = .returned (.bool true) ∧ Below w.heap.size w w' := by
  have HR1 := Lib.hid fun W (hb : Below w.heap.size w W) => RowA.below h1 hb
  have HR2 := Lib.hid fun W (hb : Below w.heap.size w W) => RowA.below h2 hb
  have HF1 := Lib.hid fun W h => fews_post l1 A1 c1 W h z1
  have HF2 := Lib.hid fun W h => fews_post l2 A2 c2 W h z2
  have g1 := fewHs_sz k1
  have g2 := fewHs_sz k2
  have n1 := fun g hg => (fewHs_good k1 g hg).1
  have n2 := fun g hg => (fewHs_good k2 g hg).1
  have f1 := fewHs_len l1
  have f2 := fewHs_len l2
  generalize fewHs l1 = F1 at *
  generalize fewHs l2 = F2 at *
  have X1 := Ix.few_none.add tOne F1 (by decide) g1
  have X2 := X1.add tTwo F2 (by decide) g2
  have X3 := X2.add tThree F1 (by decide) g1
  have m2 := names_add (pack := tTwo) (hs := F2) (names_add (X := ⟨[], []⟩) (pack := tOne) (hs := F1) (fun _ h => by cases h) n1) n2
  have hp2 : (((⟨[], []⟩ : Ix).add tOne F1).add tTwo F2).packs = [tOne, tTwo] := by rfl
  have hp3 : ((((⟨[], []⟩ : Ix).add tOne F1).add tTwo F2).add tThree F1).packs = [tOne, tTwo, tThree] := by rfl
  obtain ⟨hfit, henc⟩ := fit_few X2 (by omega) (by omega) (by rw [hp2]; decide) m2
  have hdec := decI_enc hfit
  have HDEC := Lib.hid hdec
  have hp3l : ((((⟨[], []⟩ : Ix).add tOne F1).add tTwo F2).add tThree F1).packs.length = 3 := by rw [hp3]; rfl
  have HX1 := Lib.hid X1
  have HX2 := Lib.hid X2
  have HX3 := Lib.hid X3
  have HG1 := Lib.hid g1
  have HG2 := Lib.hid g2
  have HP3 := Lib.hid hp3l
  clear h1 h2 k1 k2 g1 g2 n1 n2 X1 X2 X3 m2 hp2 hp3 hfit hdec hp3l
  generalize hY1 : (⟨[], []⟩ : Ix).add tOne F1 = Y1 at *
  generalize hY2 : Y1.add tTwo F2 = Y2 at *
  generalize hY3 : Y2.add tThree F1 = Y3 at *
  have HD := Lib.hid fun W => idec_any (bs (encI Y2)) W (by rw [bs_size]; omega)
  have HO0 := Lib.hid (OneIx.made w)
  have HA := Lib.hid fun W => awake_any W
  have HY := Lib.hid (And.intro hY1 (And.intro hY2 hY3))
  clear hY1 hY2 hY3 henc
  go_enter Try.func6, Try.ntmps6
  go_upto_region 2 with fail
  generalize w.alloc (.cells #[.map none, .slice none 0 0] 27) = w0 at *
  go_wp2_with fail
  refine (HF1.out _ (HR1.out _ HO0.out.bel)).mono ?_
  rintro e w1 ⟨Aa, ca, rfl, hr1, hf1, hb1, _⟩
  have HO1 := Lib.hid (HO0.out.below hb1)
  have HC1 := Lib.hid (oneAdd (np := 0) (nq := 0) HO1.out Ix.few_none (by decide) (by decide) tOne F1 Aa ca hr1 (fun g o e hf => absurd (hf1 g o e) (by have := HO0.out.ix.lt g hf; omega)) (by omega) (by decide) HG1.out)
  clear hr1 hf1 hb1
  go_wp2_with fail
  refine HC1.out.mono ?_
  rintro e w2 ⟨rfl, mb2, rb2, ho2, _⟩
  rw [HY.out.1] at ho2
  have HO2 := Lib.hid ho2
  clear ho2 HC1 HO1 HO0
  go_wp2_with fail
  refine (HF2.out _ (HR2.out _ HO2.out.bel)).mono ?_
  rintro e w3 ⟨Ab, cb, rfl, hr3, hf3, hb3, _⟩
  have HO3 := Lib.hid (HO2.out.below hb3)
  have HC3 := Lib.hid (oneAdd HO3.out HX1.out (by omega) (by omega) tTwo F2 Ab cb hr3 (fun g o e hf => absurd (hf3 g o e) (by have := HO2.out.ix.lt g hf; omega)) (by omega) (by decide) HG2.out)
  clear hr3 hf3 hb3
  go_wp2_with fail
  refine HC3.out.mono ?_
  rintro e w4 ⟨rfl, mb4, rb4, ho4, _⟩
  rw [HY.out.2.1] at ho4
  have HO4 := Lib.hid ho4
  clear ho4 HC3 HO3 HO2
  have HEX := Lib.hid fun W h => ienc_any w.heap.size mb4 rb4 Y2 W h (HX2.out.wr (by omega) (by omega))
  go_wp2_with fail
  refine (HEX.out _ HO4.out.ix).mono ?_
  rintro e w5 ⟨rfl, hb5⟩
  have HO5 := Lib.hid (HO4.out.below hb5)
  clear hb5 HO4
  go_wp2_with fail
  refine (HD.out _).mono ?_
  rintro e w6 (⟨hno, _⟩ | ⟨X', by', my, rby, hy, rfl, hiy, lb, lm, lr, hb6⟩)
  · rw [HDEC.out] at hno; cases hno
  obtain rfl : Y2 = X' := by rw [HDEC.out] at hy; exact Option.some.inj hy
  have HO6 := Lib.hid (HO5.out.below hb6)
  have HIY := Lib.hid hiy
  have HAP := Lib.hid (show ∀ k, IxF w.heap.size mb4 rb4 k → ¬ IxF by' (some my) rby k from fun k hk hy => by
    have h1 := HO5.out.ix.lt k hk
    rcases hy with rfl | e | e
    · omega
    · cases e; omega
    · have := lr k e; omega)
  have HLY := Lib.hid (show ∀ k, IxF by' (some my) rby k → w.heap.size ≤ k from fun k hk => by
    have h1 := HO5.out.bel.size
    rcases hk with rfl | e | e
    · omega
    · cases e; omega
    · have := lr k e; omega)
  clear hy hiy lb lm lr hb6 HO5
  have HEX6 := Lib.hid fun W h => ienc_any w.heap.size mb4 rb4 Y2 W h (HX2.out.wr (by omega) (by omega))
  have HEY6 := Lib.hid fun W h => ienc_any by' (some my) rby Y2 W h (HX2.out.wr (by omega) (by omega))
  generalize bs (encI Y2) = E2 at *
  have hx2 : (E2.toList == E2.toList) = true := by simp
  go_wp2_with fail
  refine (HEY6.out _ HIY.out).mono ?_
  rintro e w7 ⟨rfl, hb7⟩
  have HO7 := Lib.hid (HO6.out.below hb7)
  have HIY7 := Lib.hid (HIY.out.below hb7)
  clear hb7 HO6 HIY
  go_wp2_with fail
  refine (HEX6.out _ HO7.out.ix).mono ?_
  rintro e w8 ⟨rfl, hb8⟩
  have HO8 := Lib.hid (HO7.out.below hb8)
  have HIY8 := Lib.hid (HIY7.out.below hb8)
  clear hb8 HO7 HIY7
  go_wp2_with fail
  refine (HF1.out _ (HR1.out _ HO8.out.bel)).mono ?_
  rintro e w9 ⟨Ac, cc, rfl, hr9, hf9, hb9, _⟩
  have HO9 := Lib.hid (HO8.out.below hb9)
  have HIY9 := Lib.hid (HIY8.out.below hb9)
  have HC9 := Lib.hid (oneAdd HO9.out HX2.out (by omega) (by omega) tThree F1 Ac cc hr9 (fun g o e hf => absurd (hf9 g o e) (by have := HO8.out.ix.lt g hf; omega)) (by omega) (by decide) HG1.out)
  clear hr9 hf9 hb9 HO8 HIY8
  go_wp2_with fail
  refine HC9.out.mono ?_
  rintro e w10 ⟨rfl, mbx, rbx, hoX, hgX⟩
  obtain ⟨hiy10, hap10⟩ := HIY9.out.apart hgX HAP.out
  rw [HY.out.2.2] at hoX
  have HOX := Lib.hid hoX
  have HOY := Lib.hid (OneIx.mk hiy10 HLY.out hoX.bel)
  have HAP2 := Lib.hid hap10
  clear hoX hgX hiy10 hap10 HC9 HO9 HIY9 HAP HLY
  go_wp2_with fail
  refine (HF1.out _ (HR1.out _ HOX.out.bel)).mono ?_
  rintro e w11 ⟨Ad, cd, rfl, hr11, hf11, hb11, _⟩
  have HOX1 := Lib.hid (HOX.out.below hb11)
  have HOY1 := Lib.hid (HOY.out.below hb11)
  have HC11 := Lib.hid (oneAdd HOY1.out HX2.out (by omega) (by omega) tThree F1 Ad cd hr11 (fun g o e hf => absurd (hf11 g o e) (by have := HOY.out.ix.lt g hf; omega)) (by omega) (by decide) HG1.out)
  clear hr11 hf11 hb11 HOX HOY
  go_wp2_with fail
  refine HC11.out.mono ?_
  rintro e w12 ⟨rfl, mby, rby2, hoY, hgY⟩
  obtain ⟨hix12, _⟩ := HOX1.out.ix.apart hgY (fun k hy hx => HAP2.out k hx hy)
  rw [HY.out.2.2] at hoY
  have HIX12 := Lib.hid hix12
  have HOY2 := Lib.hid hoY
  clear hoY hgY hix12 HC11 HOX1 HOY1 HAP2
  have h3 := HX3.out.np
  have h4 := HX3.out.nq
  have HEX3 := Lib.hid fun W h => ienc_any w.heap.size mbx rbx Y3 W h (HX3.out.wr (by omega) (by omega))
  have HEY3 := Lib.hid fun W h => ienc_any by' mby rby2 Y3 W h (HX3.out.wr (by omega) (by omega))
  have hpy := fun W h => packs_len by' mby rby2 Y3 W h (by omega)
  have HPY := Lib.hid hpy
  have HNX := Lib.hid fun W h => names_len w.heap.size mbx rbx Y3 W h HX3.out.ok.up (by omega)
  have HNY := Lib.hid fun W h => names_len by' mby rby2 Y3 W h HX3.out.ok.up (by omega)
  generalize bs (encI Y3) = E3 at *
  have hx3 : (E3.toList == E3.toList) = true := by simp
  have hxn : ((Y3.places.length : Int) == (Y3.places.length : Int)) = true := by simp
  have hxp : ((Y3.packs.length : Int) == 3) = true := by rw [HP3.out]; rfl
  clear hpy h3 h4
  go_wp2_with fail
  refine (HA.out _).mono ?_
  rintro e v1 ⟨rfl, hb1⟩
  have HOv1 := Lib.hid (HOY2.out.below hb1)
  have HIv1 := Lib.hid (HIX12.out.below hb1)
  clear hb1 HOY2 HIX12
  go_wp2_with fail
  refine (HEX3.out _ HIv1.out).mono ?_
  rintro e v2 ⟨rfl, hb2⟩
  have HOv2 := Lib.hid (HOv1.out.below hb2)
  have HIv2 := Lib.hid (HIv1.out.below hb2)
  clear hb2 HOv1 HIv1
  go_wp2_with fail
  refine (HEY3.out _ HOv2.out.ix).mono ?_
  rintro e v3 ⟨rfl, hb3⟩
  have HOv3 := Lib.hid (HOv2.out.below hb3)
  have HIv3 := Lib.hid (HIv2.out.below hb3)
  clear hb3 HOv2 HIv2
  go_wp2_with fail
  refine (HPY.out _ HOv3.out.ix).mono ?_
  rintro e v4 ⟨A4, c4, rfl, _, hb4⟩
  have HOv4 := Lib.hid (HOv3.out.below hb4)
  have HIv4 := Lib.hid (HIv3.out.below hb4)
  clear hb4 HOv3 HIv3
  go_wp2_with fail
  refine (HNY.out _ HOv4.out.ix).mono ?_
  rintro e v5 ⟨A5, c5, rfl, _, hb5⟩
  have HOv5 := Lib.hid (HOv4.out.below hb5)
  have HIv5 := Lib.hid (HIv4.out.below hb5)
  clear hb5 HOv4 HIv4
  go_wp2_with fail
  refine (HNX.out _ HIv5.out).mono ?_
  rintro e v6 ⟨A6, c6, rfl, _, hb6⟩
  have HOv6 := Lib.hid (HOv5.out.below hb6)
  clear hb6 HOv5 HIv5
  go_wp2
  go_ret
  exact ⟨rfl, HOv6.out.bel⟩
end Go.Proofs.Ytopmanmjggcfaaa
