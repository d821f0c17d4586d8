/- ManifestUnlike, walked. -/
import Derived.Test.YtbjompcaekbjoaaDoorMi
import Derived.Deep.DeepCutAuto
namespace Go.Proofs.YtbjompcaekbjoaaDoor
open Go.RowKit

theorem StrsA.below {W W' : World} {A : Option Addr} {l : List ByteArray} (h : StrsA W W.heap.size A l) (hb : Below W.heap.size W W') : StrsA W' W'.heap.size A l := fun hl => by
  obtain ⟨b, o, h1, h2, h3⟩ := h hl
  exact ⟨b, o, h1, Nat.lt_of_lt_of_le h2 hb.size, fun j u hj => (hb.cell (p := ⟨b, o + j, none⟩) h2).trans (h3 j u hj)⟩
/-- texts that lie below the boxes of a call -/
theorem StrsA.low {w W : World} {A : Option Addr} {l : List ByteArray} (h : StrsA w w.heap.size A l) (hb : Below w.heap.size w W) : StrsA W W.heap.size A l := h.below hb
/-- what comes in -/
def ManIn (w : World) (m : Man) (A : Option Addr) (c : Nat) : Prop := StrsA w w.heap.size A m.chunks ∧ m.chunks.length ≤ c ∧ (A = none → m.chunks.length = 0 ∧ c = 0) ∧ c ≤ 140737488355328 ∧ ManB m
theorem ManB.few {m : Man} (h : ManB m) : ManB (fewM m) := by
  obtain ⟨h1, h2, h3, h4, h5, h6, h7⟩ := h
  exact ⟨h1, h2, h3, h4, h5, h6, by simp only [fewM, List.length_take]; omega⟩
def mcells (m : Man) (A : Option Addr) (c : Nat) : Array Value := #[.int .i64 m.time, .string m.tag, .string m.parent, .int .i64 m.size, .slice A m.chunks.length c]
/-- five stores into a manifest's block -/
def put5 (w : World) (g : Nat) (m : Man) (A : Option Addr) (c : Nat) : World := ((((w.setCell ⟨g, 0, none⟩ (.int .i64 m.time)).setCell ⟨g, 1, none⟩ (.string m.tag)).setCell ⟨g, 2, none⟩ (.string m.parent)).setCell ⟨g, 3, none⟩ (.int .i64 m.size)).setCell ⟨g, 4, none⟩ (.slice A m.chunks.length c)
theorem put5_blk {w : World} {g : Nat} {t : TypeId} {a0 a1 a2 a3 a4 : Value} (h : Blk w g t #[a0, a1, a2, a3, a4]) (m : Man) (A : Option Addr) (c : Nat) : Blk (put5 w g m A c) g t (mcells m A c) := ((((h.set_ 0 _).set_ 1 _).set_ 2 _).set_ 3 _).set_ 4 _
theorem put5_only (w : World) (g : Nat) (m : Man) (A : Option Addr) (c : Nat) : Only g w (put5 w g m A c) := ((((Only.set g 0 w _).trans (Only.set g 1 _ _)).trans (Only.set g 2 _ _)).trans (Only.set g 3 _ _)).trans (Only.set g 4 _ _)
theorem StrsA.only {W W' : World} {A : Option Addr} {l : List ByteArray} {g n : Nat} (h : StrsA W W.heap.size A l) (ho : Only g W W') (hg : g < n) (hn : ∀ b o, A = some ⟨b, o, none⟩ → 0 < l.length → n ≤ b) : StrsA W' W'.heap.size A l := fun hl => by
  obtain ⟨b, o, h1, h2, h3⟩ := h hl
  have := hn b o h1 hl
  exact ⟨b, o, h1, by rw [ho.size]; exact h2, fun j u hj => ho.grown.cell (h3 j u hj) (by simp; omega)⟩
/-- what the loop has found -/
def SmP (a b : Man) (k : Nat) (sm : Bool) : Prop := (sm = true → a.time = b.time ∧ a.tag = b.tag ∧ a.parent = b.parent ∧ a.size = b.size ∧ a.chunks.length = b.chunks.length ∧ a.chunks.take k = b.chunks.take k) ∧ (sm = false → a ≠ b)
theorem SmP.no {a b : Man} {k : Nat} (h : a ≠ b) : SmP a b k false := ⟨(fun e => by cases e), fun _ => h⟩
theorem SmP.next {a b : Man} {k : Nat} (h : SmP a b k true) (h1 : k < a.chunks.length) (h2 : k < b.chunks.length) (hx : a.chunks[k] = b.chunks[k]) : SmP a b (k + 1) true := by
  obtain ⟨e1, e2, e3, e4, e5, e6⟩ := h.1 rfl
  refine ⟨fun _ => ⟨e1, e2, e3, e4, e5, ?_⟩, (fun e => by cases e)⟩
  rw [List.take_succ_eq_append_getElem h1, List.take_succ_eq_append_getElem h2, e6, hx]
theorem SmP.last {a b : Man} {k : Nat} (h : SmP a b k true) (hk : a.chunks.length ≤ k) : a = b := by
  obtain ⟨e1, e2, e3, e4, e5, e6⟩ := h.1 rfl
  rw [List.take_of_length_le hk, List.take_of_length_le (by omega)] at e6
  cases a; cases b
  simp only at *
  subst e1 e2 e3 e4 e6
  rfl
theorem enc_same {a b : Man} (ha : goodM a = true) (hb : goodM b = true) : ((encR a).1.toList == (encR b).1.toList) = sameM a b := by
  rw [txt_ne, Bool.eq_iff_iff, sameM_iff, decide_eq_true_iff]
  refine ⟨fun h => ?_, (fun h => by rw [h])⟩
  unfold encR at h
  rw [if_pos ha, if_pos hb] at h
  exact manL_inj ha hb (bs_inj h)
/-- behind the first statement -/
def UnPost (w : World) (a b : Man) (W : World) : Prop := ∃ A B c d, Blk W w.heap.size 24 (mcells (fewM a) A c) ∧ Blk W (w.heap.size + 1) 24 (mcells (fewM b) B d) ∧ StrsA W W.heap.size A (fewM a).chunks ∧ StrsA W W.heap.size B (fewM b).chunks ∧ Below w.heap.size w W ∧ (fewM a).chunks.length ≤ c ∧ (fewM b).chunks.length ≤ d
set_option maxRecDepth 100000 in
set_option maxHeartbeats 3200000 in
theorem unlike_all (a b : Man) (A B : Option Addr) (c d : Nat) (w : World) (he : Env w) (ha : ManIn w a A c) (hb : ManIn w b B d) :
    Calls Tryd.prog 4 #[manV a A c, manV b B d] w fun e w' => e = .returned (.bool true) ∧ Below w.heap.size w w' := by
  obtain ⟨a1, a2, a3, a4, a5⟩ := ha
  obtain ⟨b1, b2, b3, b4, b5⟩ := hb
  have HE := Lib.hid fun W (hb : Below w.heap.size w W) => he.below hb
  have HFA := Lib.hid fun W (hb : Below w.heap.size w W) => mfew_any a A c W (a1.low hb) a2 a3 a4
  have HFB := Lib.hid fun W (hb : Below w.heap.size w W) => mfew_any b B d W (b1.low hb) b2 b3 b4
  have HAB := Lib.hid a5.few
  have HBB := Lib.hid b5.few
  have hb0 : Below w.heap.size w ((w.alloc (.cells #[.int .i64 a.time, .string a.tag, .string a.parent, .int .i64 a.size, .slice A a.chunks.length c] 24)).alloc (.cells #[.int .i64 b.time, .string b.tag, .string b.parent, .int .i64 b.size, .slice B b.chunks.length d] 24)) := ((Below.refl w.heap.size w).alloc (Nat.le_refl _) _).alloc (by simp) _
  have HB0 := Lib.hid hb0
  have HBA := Lib.hid ((Blk.new w 24 #[.int .i64 a.time, .string a.tag, .string a.parent, .int .i64 a.size, .slice A a.chunks.length c]).alloc (.cells #[.int .i64 b.time, .string b.tag, .string b.parent, .int .i64 b.size, .slice B b.chunks.length d] 24))
  have hbb := Blk.new (w.alloc (.cells #[.int .i64 a.time, .string a.tag, .string a.parent, .int .i64 a.size, .slice A a.chunks.length c] 24)) 24 #[.int .i64 b.time, .string b.tag, .string b.parent, .int .i64 b.size, .slice B b.chunks.length d]
  rw [World.size_alloc] at hbb
  have HBBk := Lib.hid hbb
  clear a1 a2 a3 a4 a5 b1 b2 b3 b4 b5 hb0 hbb he
  unfold manV at *
  go_enter Tryd.func4, Tryd.ntmps4
  go_upto_region 1 with fail
  go_cut [12] (fun _ wc => UnPost w a b wc)
  case first =>
    go_region_law (first
        | (go_simp; go_at_call 15; (with_reducible refine (HFA.out _ HB0.out.drew).mono ?_); rintro e w3 ⟨A3, c3, he3, hs3, hb3, hl3, hf3⟩; unfold manV at he3; subst he3; have hi3 := HBA.out.drew.below hb3 HBA.out.drew.lt; have hk3 := HBBk.out.drew.below hb3 HBBk.out.drew.lt; have hB3 := HB0.out.drew.trans (hb3.mono HB0.out.drew.size); have j0 : w3.cell? ⟨w.heap.size + 1, 0, none⟩ = some (.int .i64 b.time) := hk3.cell 0; have j1 : w3.cell? ⟨w.heap.size + 1, 1, none⟩ = some (.string b.tag) := hk3.cell 1; have j2 : w3.cell? ⟨w.heap.size + 1, 2, none⟩ = some (.string b.parent) := hk3.cell 2; have j3 : w3.cell? ⟨w.heap.size + 1, 3, none⟩ = some (.int .i64 b.size) := hk3.cell 3; have j4 : w3.cell? ⟨w.heap.size + 1, 4, none⟩ = some (.slice B b.chunks.length d) := hk3.cell 4)
        | (go_simp; go_at_call 15; (with_reducible refine (HFB.out _ hB3).mono ?_); rintro e w4 ⟨A4, c4, he4, hs4, hb4, hl4, hf4⟩; unfold manV at he4; subst he4; have hi4 := hi3.below hb4 hi3.lt; have hk4 := hk3.below hb4 hk3.lt; have hB4 := hB3.trans (hb4.mono hB3.size); have m0 : w4.cell? ⟨w.heap.size, 0, none⟩ = some (.int .i64 a.time) := hi4.cell 0; have m1 : w4.cell? ⟨w.heap.size, 1, none⟩ = some (.string a.tag) := hi4.cell 1; have m2 : w4.cell? ⟨w.heap.size, 2, none⟩ = some (.string a.parent) := hi4.cell 2; have m3 : w4.cell? ⟨w.heap.size, 3, none⟩ = some (.int .i64 a.size) := hi4.cell 3; have m4 : w4.cell? ⟨w.heap.size, 4, none⟩ = some (.slice A a.chunks.length c) := hi4.cell 4; have n0 : w4.cell? ⟨w.heap.size + 1, 0, none⟩ = some (.int .i64 b.time) := hk4.cell 0; have n1 : w4.cell? ⟨w.heap.size + 1, 1, none⟩ = some (.string b.tag) := hk4.cell 1; have n2 : w4.cell? ⟨w.heap.size + 1, 2, none⟩ = some (.string b.parent) := hk4.cell 2; have n3 : w4.cell? ⟨w.heap.size + 1, 3, none⟩ = some (.int .i64 b.size) := hk4.cell 3; have n4 : w4.cell? ⟨w.heap.size + 1, 4, none⟩ = some (.slice B b.chunks.length d) := hk4.cell 4; have p0 := hi4.frozen 0; have p1 := hi4.frozen 1; have p2 := hi4.frozen 2; have p3 := hi4.frozen 3; have p4 := hi4.frozen 4; have q0 := hk4.frozen 0; have q1 := hk4.frozen 1; have q2 := hk4.frozen 2; have q3 := hk4.frozen 3; have q4 := hk4.frozen 4))
    all_goals
      have hz4 : w.heap.size + 1 < w4.heap.size := hk4.lt
      have hsz0 : w.heap.size + 2 ≤ w3.heap.size := hk3.lt
      have hst3 := (hs3.below hb4).only (put5_only w4 w.heap.size (fewM a) A3 c3) (n := w.heap.size + 2) (by omega) (fun b' o e hl => by have := hf3 b' o e hl; simpa using this)
      have hst4 := hs4.only (put5_only w4 w.heap.size (fewM a) A3 c3) (n := w.heap.size + 2) (by omega) (fun b' o e hl => by have := hf4 b' o e hl; omega)
      have hst3' := hst3.only (put5_only _ (w.heap.size + 1) (fewM b) A4 c4) (n := w.heap.size + 2) (by omega) (fun b' o e hl => by have := hf3 b' o e hl; simpa using this)
      have hst4' := hst4.only (put5_only _ (w.heap.size + 1) (fewM b) A4 c4) (n := w.heap.size + 2) (by omega) (fun b' o e hl => by have := hf4 b' o e hl; omega)
      have hblk1 := (put5_only _ (w.heap.size + 1) (fewM b) A4 c4).far (put5_blk hi4 (fewM a) A3 c3) (by omega)
      have hblk2 := put5_blk ((put5_only _ w.heap.size (fewM a) A3 c3).far hk4 (by omega)) (fewM b) A4 c4
      have hlow := (put5_only _ (w.heap.size + 1) (fewM b) A4 c4).low ((put5_only w4 w.heap.size (fewM a) A3 c3).low hB4 hB4.size (Nat.le_refl _)) (by rw [(put5_only w4 w.heap.size (fewM a) A3 c3).size]; exact hB4.size) (by omega)
      have HU := Lib.hid (show UnPost w a b (put5 (put5 w4 w.heap.size (fewM a) A3 c3) (w.heap.size + 1) (fewM b) A4 c4) from ⟨A3, A4, c3, c4, hblk1, hblk2, hst3', hst4', hlow, hl3, hl4⟩)
      go_wp2_with fail
      go_meet
      exact HU.out
  case rest =>
    obtain ⟨A3, A4, c3, c4, hk1, hk2, hs1, hs2, hbl, hl1, hl2⟩ := hcut
    have HN1 := HAB
    have HN2 := HBB
    clear HFA HFB HB0 HBA HBBk HAB HBB
    have HEA := Lib.hid (mencode_any (fewM a) A3 c3 wc (HE.out _ hbl) hs1 HN1.out hl1)
    have HEB := Lib.hid fun W h1 h2 => mencode_any (fewM b) A4 c4 W h1 h2 HN2.out hl2
    unfold manV at HEA HEB
    unfold mcells at hk1 hk2
    have HAW := Lib.hid fun W (h : Env W) => awake19_any W h
    have hl60 : (fewM a).chunks.length ≤ 60 := by simp only [fewM, List.length_take]; omega
    generalize fewM a = m1 at *
    generalize fewM b = m2 at *
    have hne1 : goodM m1 = false → (encR m1).1 = ⟨#[]⟩ ∧ (encR m1).2 = 4 := fun h => by unfold encR; rw [h]; exact ⟨rfl, rfl⟩
    have hne2 : goodM m2 = false → (encR m2).1 = ⟨#[]⟩ ∧ (encR m2).2 = 4 := fun h => by unfold encR; rw [h]; exact ⟨rfl, rfl⟩
    have hg1 : goodM m1 = true → (encR m1).2 = 0 := fun h => by unfold encR; rw [if_pos h]
    have hg2 : goodM m2 = true → (encR m2).2 = 0 := fun h => by unfold encR; rw [if_pos h]
    have hsm := enc_same (a := m1) (b := m2)
    generalize (encR m1).1 = S1 at *
    generalize (encR m2).1 = S2 at *
    generalize (encR m1).2 = E1 at *
    generalize (encR m2).2 = E2 at *
    have HK1 := Lib.hid hk1
    have HK2 := Lib.hid hk2
    have HS1 := Lib.hid hs1
    have HS2 := Lib.hid hs2
    have HBL := Lib.hid hbl
    have i0 : wc.cell? ⟨w.heap.size, 0, none⟩ = some (.int .i64 m1.time) := hk1.cell 0
    have i1 : wc.cell? ⟨w.heap.size, 1, none⟩ = some (.string m1.tag) := hk1.cell 1
    have i2 : wc.cell? ⟨w.heap.size, 2, none⟩ = some (.string m1.parent) := hk1.cell 2
    have i3 : wc.cell? ⟨w.heap.size, 3, none⟩ = some (.int .i64 m1.size) := hk1.cell 3
    have i4 : wc.cell? ⟨w.heap.size, 4, none⟩ = some (.slice A3 m1.chunks.length c3) := hk1.cell 4
    clear hk1 hk2 hs1 hs2 hbl hl1 hl2
    go_wp2_with fail
    refine HEA.out.mono ?_
    rintro e w5 ⟨rfl, hb5⟩
    have HBL5 := Lib.hid (HBL.out.trans (hb5.mono HBL.out.size))
    have HK15 := Lib.hid (HK1.out.below hb5 HK1.out.lt)
    have HK25 := Lib.hid (HK2.out.below hb5 HK2.out.lt)
    have HS15 := Lib.hid (HS1.out.below hb5)
    have HS25 := Lib.hid (HS2.out.below hb5)
    clear HK1 HK2 HS1 HS2 HBL hb5 i0 i1 i2 i3 i4
    have j0 : w5.cell? ⟨w.heap.size + 1, 0, none⟩ = some (.int .i64 m2.time) := HK25.out.cell 0
    have j1 : w5.cell? ⟨w.heap.size + 1, 1, none⟩ = some (.string m2.tag) := HK25.out.cell 1
    have j2 : w5.cell? ⟨w.heap.size + 1, 2, none⟩ = some (.string m2.parent) := HK25.out.cell 2
    have j3 : w5.cell? ⟨w.heap.size + 1, 3, none⟩ = some (.int .i64 m2.size) := HK25.out.cell 3
    have j4 : w5.cell? ⟨w.heap.size + 1, 4, none⟩ = some (.slice A4 m2.chunks.length c4) := HK25.out.cell 4
    go_wp2_with fail
    refine (HEB.out w5 (HE.out _ HBL5.out) HS25.out).mono ?_
    rintro e w6 ⟨rfl, hb6⟩
    have HBL6 := Lib.hid (HBL5.out.trans (hb6.mono HBL5.out.size))
    have HK16 := Lib.hid (HK15.out.below hb6 HK15.out.lt)
    have HK26 := Lib.hid (HK25.out.below hb6 HK25.out.lt)
    have HS16 := Lib.hid (HS15.out.below hb6)
    have HS26 := Lib.hid (HS25.out.below hb6)
    have HAW6 := Lib.hid (HAW.out w6 (HE.out _ HBL6.out))
    clear HK15 HK25 HS15 HS25 HBL5 hb6 j0 j1 j2 j3 j4
    rcases (by cases goodM m1 <;> cases goodM m2 <;> simp : (goodM m1 = true ∧ goodM m2 = true) ∨ (goodM m1 = false ∧ goodM m2 = true) ∨ (goodM m1 = true ∧ goodM m2 = false) ∨ (goodM m1 = false ∧ goodM m2 = false)) with ⟨q1, q2⟩ | ⟨q1, q2⟩ | ⟨q1, q2⟩ | ⟨q1, q2⟩
    rotate_left 1
    · obtain ⟨rfl, rfl⟩ := hne1 q1
      obtain rfl := hg2 q2
      clear hne1 hne2 hg1 hg2 hsm q1 q2
      go_wp2_with fail
      refine HAW6.out.mono ?_
      rintro e w7 ⟨rfl, hb7⟩
      go_wp2
      go_ret
      exact ⟨rfl, HBL6.out.trans (hb7.mono HBL6.out.size)⟩
    · obtain ⟨rfl, rfl⟩ := hne2 q2
      obtain rfl := hg1 q1
      clear hne1 hne2 hg1 hg2 hsm q1 q2
      go_wp2_with fail
      refine HAW6.out.mono ?_
      rintro e w7 ⟨rfl, hb7⟩
      go_wp2
      go_ret
      exact ⟨rfl, HBL6.out.trans (hb7.mono HBL6.out.size)⟩
    · obtain ⟨rfl, rfl⟩ := hne1 q1
      obtain ⟨rfl, rfl⟩ := hne2 q2
      clear hne1 hne2 hg1 hg2 hsm q1 q2
      go_wp2_with fail
      refine HAW6.out.mono ?_
      rintro e w7 ⟨rfl, hb7⟩
      go_wp2
      go_ret
      exact ⟨rfl, HBL6.out.trans (hb7.mono HBL6.out.size)⟩
    · obtain rfl := hg1 q1
      obtain rfl := hg2 q2
      have HST := Lib.hid (hsm q1 q2)
      clear hne1 hne2 hg1 hg2 hsm q1 q2
      have i0 : w6.cell? ⟨w.heap.size, 0, none⟩ = some (.int .i64 m1.time) := HK16.out.cell 0
      have i1 : w6.cell? ⟨w.heap.size, 1, none⟩ = some (.string m1.tag) := HK16.out.cell 1
      have i2 : w6.cell? ⟨w.heap.size, 2, none⟩ = some (.string m1.parent) := HK16.out.cell 2
      have i3 : w6.cell? ⟨w.heap.size, 3, none⟩ = some (.int .i64 m1.size) := HK16.out.cell 3
      have i4 : w6.cell? ⟨w.heap.size, 4, none⟩ = some (.slice A3 m1.chunks.length c3) := HK16.out.cell 4
      have j0 : w6.cell? ⟨w.heap.size + 1, 0, none⟩ = some (.int .i64 m2.time) := HK26.out.cell 0
      have j1 : w6.cell? ⟨w.heap.size + 1, 1, none⟩ = some (.string m2.tag) := HK26.out.cell 1
      have j2 : w6.cell? ⟨w.heap.size + 1, 2, none⟩ = some (.string m2.parent) := HK26.out.cell 2
      have j3 : w6.cell? ⟨w.heap.size + 1, 3, none⟩ = some (.int .i64 m2.size) := HK26.out.cell 3
      have j4 : w6.cell? ⟨w.heap.size + 1, 4, none⟩ = some (.slice A4 m2.chunks.length c4) := HK26.out.cell 4
      have r2 := txt_ne m1.tag m2.tag
      have r3 := txt_ne m1.parent m2.parent
      rcases (by
        by_cases h1 : m1.time = m2.time
        · by_cases h2 : m1.tag = m2.tag
          · by_cases h3 : m1.parent = m2.parent
            · by_cases h4 : m1.size = m2.size
              · by_cases h5 : m1.chunks.length = m2.chunks.length
                · exact .inl ⟨h1, h2, h3, h4, h5⟩
                · exact .inr (.inl ⟨h1, h2, h3, h4, h5⟩)
              · exact .inr (.inr (.inl ⟨h1, h2, h3, h4⟩))
            · exact .inr (.inr (.inr (.inl ⟨h1, h2, h3⟩)))
          · exact .inr (.inr (.inr (.inr (.inl ⟨h1, h2⟩))))
        · exact .inr (.inr (.inr (.inr (.inr h1)))) : (m1.time = m2.time ∧ m1.tag = m2.tag ∧ m1.parent = m2.parent ∧ m1.size = m2.size ∧ m1.chunks.length = m2.chunks.length) ∨ (m1.time = m2.time ∧ m1.tag = m2.tag ∧ m1.parent = m2.parent ∧ m1.size = m2.size ∧ ¬ m1.chunks.length = m2.chunks.length) ∨ (m1.time = m2.time ∧ m1.tag = m2.tag ∧ m1.parent = m2.parent ∧ ¬ m1.size = m2.size) ∨ (m1.time = m2.time ∧ m1.tag = m2.tag ∧ ¬ m1.parent = m2.parent) ∨ (m1.time = m2.time ∧ ¬ m1.tag = m2.tag) ∨ ¬ m1.time = m2.time) with ⟨h1, h2, h3, h4, h5⟩ | ⟨h1, h2, h3, h4, h5⟩ | ⟨h1, h2, h3, h4⟩ | ⟨h1, h2, h3⟩ | ⟨h1, h2⟩ | h1
      case' inl =>
        have HQ := Lib.hid (show SmP m1 m2 0 true from ⟨fun _ => ⟨h1, h2, h3, h4, h5, rfl⟩, (fun e => by cases e)⟩)
        rw [decide_eq_true h2] at r2
        rw [decide_eq_true h3] at r3
        have s1 : (m1.time == m2.time) = true := by simpa using h1
        have s4 : (m1.size == m2.size) = true := by simpa using h4
        have s5 : ((m1.chunks.length : Int) == (m2.chunks.length : Int)) = true := by simp; omega
        clear h1 h2 h3 h4 h5
      case' inr.inl =>
        have HQ := Lib.hid (show SmP m1 m2 0 false from SmP.no fun e => h5 (by rw [e]))
        rw [decide_eq_true h2] at r2
        rw [decide_eq_true h3] at r3
        have s1 : (m1.time == m2.time) = true := by simpa using h1
        have s4 : (m1.size == m2.size) = true := by simpa using h4
        have s5 : ((m1.chunks.length : Int) == (m2.chunks.length : Int)) = false := by simp; omega
        clear h1 h2 h3 h4 h5
      case' inr.inr.inl =>
        have HQ := Lib.hid (show SmP m1 m2 0 false from SmP.no fun e => h4 (by rw [e]))
        rw [decide_eq_true h2] at r2
        rw [decide_eq_true h3] at r3
        have s1 : (m1.time == m2.time) = true := by simpa using h1
        have s4 : (m1.size == m2.size) = false := by simpa using h4
        clear h1 h2 h3 h4
      case' inr.inr.inr.inl =>
        have HQ := Lib.hid (show SmP m1 m2 0 false from SmP.no fun e => h3 (by rw [e]))
        rw [decide_eq_true h2] at r2
        rw [decide_eq_false h3] at r3
        have s1 : (m1.time == m2.time) = true := by simpa using h1
        clear h1 h2 h3
      case' inr.inr.inr.inr.inl =>
        have HQ := Lib.hid (show SmP m1 m2 0 false from SmP.no fun e => h2 (by rw [e]))
        rw [decide_eq_false h2] at r2
        have s1 : (m1.time == m2.time) = true := by simpa using h1
        clear h1 h2
      case' inr.inr.inr.inr.inr =>
        have HQ := Lib.hid (show SmP m1 m2 0 false from SmP.no fun e => h1 (by rw [e]))
        have s1 : (m1.time == m2.time) = false := by simpa using h1
        clear h1
      all_goals
        go_wp2
        go_loopw [9, 10] (fun t i wr => ∃ (k : Nat) (sm : Bool), t = .bool sm ∧ i = .int .i64 (k : Nat) ∧ k ≤ m1.chunks.length ∧ SmP m1 m2 k sm ∧ Below w6.heap.size w6 wr) (fun _ i _ => m1.chunks.length - (intOf i).toNat)
        case atStart => exact ⟨0, _, rfl, rfl, Nat.zero_le _, HQ.out, Below.refl _ _⟩
        case round =>
          obtain ⟨k, sm, rfl, rfl, hk, hq, hw⟩ := hrel
          have HQ2 := Lib.hid hq
          have HW := Lib.hid hw
          have HAWR := Lib.hid (HAW.out wr (HE.out _ (HBL6.out.trans (hw.mono HBL6.out.size))))
          have HBLR := Lib.hid (HBL6.out.trans (hw.mono HBL6.out.size))
          have i4' : wr.cell? ⟨w.heap.size, 4, none⟩ = some (.slice A3 m1.chunks.length c3) := (HK16.out.below hw HK16.out.lt).cell 4
          have j4' : wr.cell? ⟨w.heap.size + 1, 4, none⟩ = some (.slice A4 m2.chunks.length c4) := (HK26.out.below hw HK26.out.lt).cell 4
          clear hq hw
          cases sm with
          | false =>
            have hf : (S1.toList == S2.toList) = false := by
              rw [HST.out]
              cases hs : sameM m1 m2 with
              | false => rfl
              | true => exact absurd ((sameM_iff _ _).1 hs) (HQ2.out.2 rfl)
            go_wp2_with fail
            refine HAWR.out.mono ?_
            rintro e w7 ⟨rfl, hb7⟩
            go_wp2
            go_ret
            exact ⟨rfl, HBLR.out.trans (hb7.mono HBLR.out.size)⟩
          | true =>
            by_cases hkl : k < m1.chunks.length
            · have hkl2 : k < m2.chunks.length := by
                obtain ⟨_, _, _, _, e5, _⟩ := HQ2.out.1 rfl
                omega
              obtain ⟨b1, o1, rfl, hl1, hc1⟩ := HS16.out (by omega)
              obtain ⟨b2, o2, rfl, hl2, hc2⟩ := HS26.out (by omega)
              have hcx := (HW.out.cell (p := ⟨b1, o1 + k, none⟩) hl1).trans (hc1 k m1.chunks[k] (List.getElem?_eq_getElem hkl))
              have hcy := (HW.out.cell (p := ⟨b2, o2 + k, none⟩) hl2).trans (hc2 k m2.chunks[k] (List.getElem?_eq_getElem hkl2))
              have HNX := Lib.hid fun e => SmP.next HQ2.out hkl hkl2 e
              have HNE := Lib.hid (show m1.chunks[k] ≠ m2.chunks[k] → m1 ≠ m2 from fun h e => h (by subst e; rfl))
              have hk0 : (0 : Int) ≤ (k : Int) := by omega
              have hk1 : (k : Int) < (m1.chunks.length : Int) := by omega
              have hk2 : (k : Int) < (m2.chunks.length : Int) := by omega
              have hk3 : ((k : Int)).toNat = k := by omega
              clear hc1 hc2
              generalize m1.chunks[k] = x at *
              generalize m2.chunks[k] = y at *
              have q6 := txt_ne x y
              by_cases hxy : x = y
              · have HXY := Lib.hid (HNX.out hxy)
                rw [decide_eq_true hxy] at q6
                clear hxy
                go_upto_region 10 with fail
                go_quiet (fail)
                go_wp2
                go_roundw
                case rel => exact ⟨k + 1, true, rfl, by go_num, by omega, HXY.out, by first | exact HW.out | exact HW.out.drew | exact below_drewN HW.out _⟩
                case measure => simp [intOf]; omega
              · have HXY := Lib.hid (HNE.out hxy)
                rw [decide_eq_false hxy] at q6
                clear hxy
                go_upto_region 10 with fail
                go_quiet (fail)
                go_wp2
                go_roundw
                case rel => exact ⟨k + 1, false, rfl, by go_num, by omega, SmP.no HXY.out, by first | exact HW.out | exact HW.out.drew | exact below_drewN HW.out _⟩
                case measure => simp [intOf]; omega
            · have hf : (S1.toList == S2.toList) = true := by
                rw [HST.out]
                exact (sameM_iff _ _).2 (HQ2.out.last (by omega))
              go_wp2_with fail
              refine HAWR.out.mono ?_
              rintro e w7 ⟨rfl, hb7⟩
              go_wp2
              go_ret
              exact ⟨rfl, HBLR.out.trans (hb7.mono HBLR.out.size)⟩
end Go.Proofs.YtbjompcaekbjoaaDoor
