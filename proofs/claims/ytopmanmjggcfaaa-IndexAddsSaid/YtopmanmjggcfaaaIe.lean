/- The index: Encode. -/
import Derived.Test.YtopmanmjggcfaaaId
import Derived.Deep.RegionHeld3
namespace Go.Proofs.Ytopmanmjggcfaaa
open Go.RowKit

theorem packsL_snoc (l : List ByteArray) (k : Nat) (h : k < l.length) : packsL (l.take (k + 1)) = packsL (l.take k) ++ textL l[k] := by
  unfold packsL
  rw [List.take_succ_eq_append_getElem h, List.map_append, List.flatten_append]
  simp only [List.map_cons, List.map_nil, List.flatten_cons, List.flatten_nil, List.append_nil]
theorem plsL_snoc (packs : List ByteArray) (l : List (ByteArray × Pl)) (k : Nat) (h : k < l.length) : plsL packs (l.take (k + 1)) = plsL packs (l.take k) ++ plL packs l[k].2 := by
  unfold plsL
  rw [List.take_succ_eq_append_getElem h, List.map_append, List.flatten_append]
  simp only [List.map_cons, List.map_nil, List.flatten_cons, List.flatten_nil, List.append_nil]
theorem packsL_take (l : List ByteArray) (k : Nat) : (packsL (l.take k)).length ≤ (packsL l).length := by
  conv => rhs; rw [← List.take_append_drop k l]
  unfold packsL
  rw [List.map_append, List.flatten_append, List.length_append]
  omega
theorem plsL_take (packs : List ByteArray) (l : List (ByteArray × Pl)) (k : Nat) : (plsL packs (l.take k)).length ≤ (plsL packs l).length := by
  conv => rhs; rw [← List.take_append_drop k l]
  unfold plsL
  rw [List.map_append, List.flatten_append, List.length_append]
  omega
theorem encI_len (X : Ix) : (encI X).length = (varL X.packs.length).length + (packsL X.packs).length + (varL X.places.length).length + (plsL X.packs X.places).length := by
  unfold encI
  simp only [List.length_append]
theorem var_size (x : Nat) : (⟨(varL x).toArray⟩ : ByteArray).size ≤ 11 := by
  have := (varF_len 10 x).2
  show (varL x).toArray.size ≤ 11
  simpa [varL] using this
def numsP (p : Pl) : List Nat := [p.head.method.toNat, p.head.crc.toNat, p.head.packed.toNat, p.head.size.toNat, p.head.at_.toNat]
def varsL (l : List Nat) : List UInt8 := (l.map varL).flatten
theorem plL_eq (packs : List ByteArray) (p : Pl) : plL packs p = textL p.head.name ++ varL (idxP packs p.pack) ++ varsL (numsP p) := by
  unfold plL varsL numsP
  simp
theorem varsL_snoc (l : List Nat) (k : Nat) (h : k < l.length) : varsL (l.take (k + 1)) = varsL (l.take k) ++ varL l[k] := by
  unfold varsL
  rw [List.take_succ_eq_append_getElem h, List.map_append, List.flatten_append]
  simp only [List.map_cons, List.map_nil, List.flatten_cons, List.flatten_nil, List.append_nil]
theorem varsL_take (l : List Nat) (k : Nat) : (varsL (l.take k)).length ≤ (varsL l).length := by
  conv => rhs; rw [← List.take_append_drop k l]
  unfold varsL
  rw [List.map_append, List.flatten_append, List.length_append]
  omega
/-- a text that can be written -/
structure Ix.Wr (X : Ix) : Prop where
  ok : X.Ok
  np : X.packs.length ≤ 1000000
  nq : X.places.length ≤ 1000000
  sp : ∀ t ∈ X.packs, t.size ≤ 140737488355328
  sq : ∀ p ∈ X.places, p.1.size ≤ 140737488355328 ∧ HdB p.2.head
  all : (encI X).length ≤ 4611686018427387904
theorem ixmap_len {w : World} {mb : Option Nat} {l : List (ByteArray × Pl)} (h : IxMap w mb l) (ty : TypeId) : (Builtin.len_ #[24] ty #[.map mb]).run Try.prog w = .ok (.int .i64 l.length) w := by
  cases mb with
  | none =>
    have h : l = [] := h
    subst h
    exact Maps.len_nil Try.underlying24 ty
  | some m =>
    have h : ownsKV w Try.prog 9 m (kvMap plV l) := h
    have := World.ownsMap.len h Try.underlying24 ty
    have hs : Maps.size (toD (kvMap plV l)) = l.length := by simp [toD, Maps.size, kvMap]
    rw [hs] at this
    exact this
theorem ixmap_get {w : World} {mb : Option Nat} {l : List (ByteArray × Pl)} (h : IxMap w mb l) (hu : kvUp l) {k : Nat} (hk : k < l.length) (hs : l[k].1.size ≤ maxLen) : (Instr.lookup 24 (.map mb) (.string l[k].1) false).run Try.prog w = .ok (plV l[k].2) w := by
  cases mb with
  | none =>
    have h : l = [] := h
    subst h
    simp at hk
  | some m =>
    have h : ownsKV w Try.prog 9 m (kvMap plV l) := h
    have := run_kvGet (s := l[k].1) Try.underlying9 Try.underlying24 (zeroPl w) h hs
    have hg : kvGet l l[k].1 = some l[k].2 := kvGet_of_mem hu.apart (List.getElem_mem hk)
    rw [kvGet_map, hg] at this
    exact this
theorem keep2 {wk W W' : World} {b g : Nat} {u v : Value} (h : W.cell? ⟨b, 1, none⟩ = some u ∧ W.cell? ⟨g, 0, none⟩ = some v ∧ Below wk.heap.size wk W) (hb : Below W.heap.size W W') : W'.cell? ⟨b, 1, none⟩ = some u ∧ W'.cell? ⟨g, 0, none⟩ = some v ∧ Below wk.heap.size wk W' := by
  obtain ⟨h1, h2, h3⟩ := h
  exact ⟨(hb.cell (p := ⟨b, 1, none⟩) (World.block_lt_of_cell? _ _ h1)).trans h1, (hb.cell (p := ⟨g, 0, none⟩) (World.block_lt_of_cell? _ _ h2)).trans h2, h3.trans (hb.mono h3.size)⟩
theorem keep2B {wk W : World} {b g : Nat} {u v : Value} (h : W.cell? ⟨b, 1, none⟩ = some u ∧ W.cell? ⟨g, 0, none⟩ = some v ∧ Below wk.heap.size wk W) : Below wk.heap.size wk W := h.2.2
theorem numsP_get {p : Pl} {me cr pc sz aa : Nat} (h : p.head.method = me ∧ p.head.crc = cr ∧ p.head.packed = pc ∧ p.head.size = sz ∧ p.head.at_ = aa) : numsP p = [me, cr, pc, sz, aa] := by
  obtain ⟨h1, h2, h3, h4, h5⟩ := h
  unfold numsP
  rw [h1, h2, h3, h4, h5]
  rfl
theorem hd_nat {h : Hd} (hb : HdB h) : ∃ me cr pc sz aa : Nat, (h.method = me ∧ h.crc = cr ∧ h.packed = pc ∧ h.size = sz ∧ h.at_ = aa) ∧ me ≤ 4294967295 ∧ cr ≤ 4294967295 ∧ pc ≤ 4294967295 ∧ sz ≤ 4294967295 ∧ aa ≤ 4294967295 := by
  obtain ⟨b1, b2, b3, b4, b5, b6, b7, b8, b9, b10⟩ := hb
  exact ⟨h.method.toNat, h.crc.toNat, h.packed.toNat, h.size.toNat, h.at_.toNat, ⟨by omega, by omega, by omega, by omega, by omega⟩, by omega, by omega, by omega, by omega, by omega⟩
theorem five_cells {w : World} {g : Nat} {t : TypeId} {me cr pc sz aa : Nat} (h : Blk w g t #[.int .i64 me, .int .i64 cr, .int .i64 pc, .int .i64 sz, .int .i64 aa]) (b1 : me ≤ 4294967295) (b2 : cr ≤ 4294967295) (b3 : pc ≤ 4294967295) (b4 : sz ≤ 4294967295) (b5 : aa ≤ 4294967295) {j : Nat} (hj : j < 5) :
    ∃ x : Nat, ∃ hl : j < [me, cr, pc, sz, aa].length, [me, cr, pc, sz, aa][j] = x ∧ x ≤ 4294967295 ∧ w.cell? ⟨g, j, none⟩ = some (.int .i64 x) := by
  have : j = 0 ∨ j = 1 ∨ j = 2 ∨ j = 3 ∨ j = 4 := by omega
  rcases this with rfl | rfl | rfl | rfl | rfl
  · exact ⟨me, by simp, rfl, b1, h.cell 0⟩
  · exact ⟨cr, by simp, rfl, b2, h.cell 1⟩
  · exact ⟨pc, by simp, rfl, b3, h.cell 2⟩
  · exact ⟨sz, by simp, rfl, b4, h.cell 3⟩
  · exact ⟨aa, by simp, rfl, b5, h.cell 4⟩
set_option maxRecDepth 100000 in
set_option maxHeartbeats 3200000 in
theorem ienc_any (b : Nat) (mb rb : Option Nat) (X : Ix) (w : World) (h : IxAt w b mb rb X) (hw : X.Wr) :
    Calls Try.prog 11 #[.pointer (some ⟨b, 0, none⟩)] w fun e w' => e = .returned (.string (bs (encI X))) ∧ Below w.heap.size w w' := by
  have HI := Lib.hid h
  have HW := Lib.hid hw
  have HNA := Lib.hid fun W (h : IxAt W b mb rb X) => names_any b mb rb X W h hw.ok.up hw.nq
  have HLN := Lib.hid (encI_len X)
  have hnp := hw.np
  have hnq := hw.nq
  have HV1 := Lib.hid fun W => var_any X.packs.length W (by omega)
  have HV2 := Lib.hid fun W => var_any X.places.length W (by omega)
  obtain ⟨A, c, hk, ho, hrb, hne, hm⟩ := h
  have hst := (own_strs (l := X.packs) ho).1
  have c0 : w.cell? ⟨b, 0, none⟩ = some (.map mb) := hk.cell 0
  have c1 : w.cell? ⟨b, 1, none⟩ = some (.slice A X.packs.length c) := hk.cell 1
  have hbl := hk.lt
  have HK := Lib.hid hk
  have HST := Lib.hid hst
  have HM := Lib.hid hm
  have u1 : IntKind.u64.wrap (X.packs.length : Int) = (X.packs.length : Int) := IntWalk.u64_in _ (by omega)
  have u2 : IntKind.u64.wrap (X.places.length : Int) = (X.places.length : Int) := IntWalk.u64_in _ (by omega)
  clear hw hk ho hrb hne hm hst
  go_enter Try.func11, Try.ntmps11
  go_wp2_with fail
  refine (HV1.out _).mono ?_
  rintro e w1 ⟨rfl, hb1⟩
  have k1 := HK.out.below hb1 hbl
  have d1 : w1.cell? ⟨b, 1, none⟩ = some (.slice A X.packs.length c) := k1.cell 1
  have HB1 := Lib.hid hb1
  clear k1 hb1 c0 c1
  go_wp2
  go_loopw [3, 23] (fun o i wr => ∃ (k : Nat), i = .int .i64 (k : Nat) ∧ k ≤ X.packs.length ∧ o = .string (bs (varL X.packs.length ++ packsL (X.packs.take k))) ∧ Below w.heap.size w wr) (fun _ i _ => X.packs.length - (intOf i).toNat)
  case atStart => exact ⟨0, rfl, Nat.zero_le _, by simp [packsL, bs], HB1.out⟩
  case round =>
    obtain ⟨k, rfl, hk, rfl, hb⟩ := hrel
    have HB := Lib.hid hb
    clear hb
    by_cases hkl : k < X.packs.length
    · have hek := List.getElem?_eq_getElem hkl
      obtain ⟨g, o, rfl, hgl, hcell⟩ := HST.out (by omega)
      have q0 : wr.cell? ⟨g, o + k, none⟩ = some (.string X.packs[k]) := (HB.out.cell (p := ⟨g, o + k, none⟩) hgl).trans (hcell k _ hek)
      have HSN := Lib.hid (packsL_snoc X.packs k hkl)
      have hsz := HW.out.sp _ (List.getElem_mem hkl)
      have htx := Lib.hid fun W => itxt_any X.packs[k] W hsz
      have hsum : (bs (varL X.packs.length ++ packsL (X.packs.take k))).size + (bs (textL X.packs[k])).size ≤ 4611686018427387904 := by
        have h1 := packsL_take X.packs (k + 1)
        have h2 := HW.out.all
        rw [HLN.out] at h2
        rw [HSN.out, List.length_append] at h1
        simp only [bs_size, List.length_append]
        omega
      have HEQ := Lib.hid (show bs (varL X.packs.length ++ packsL (X.packs.take k)) ++ bs (textL X.packs[k]) = bs (varL X.packs.length ++ packsL (X.packs.take (k + 1))) by rw [bs_app, HSN.out, List.append_assoc])
      generalize X.packs[k] = t at *
      generalize bs (varL X.packs.length ++ packsL (X.packs.take k)) = O at *
      generalize bs (textL t) = T at *
      have hk0 : (0 : Int) ≤ (k : Int) := by omega
      have hk1 : (k : Int) < (X.packs.length : Int) := by omega
      have hk3 : ((k : Int)).toNat = k := by omega
      clear hcell hek hsz HSN hk
      go_wp2_with fail
      refine (htx.out _).mono ?_
      rintro e w2 ⟨rfl, hb2⟩
      have HB2 := Lib.hid (HB.out.trans (hb2.mono HB.out.size))
      clear hb2
      go_wp2
      go_roundw
      case rel => exact ⟨k + 1, by go_num, by omega, by rw [HEQ.out], HB2.out⟩
      case measure => simp [intOf]; omega
    · have hek : k = X.packs.length := by omega
      have HEQ := Lib.hid (show varL X.packs.length ++ packsL (X.packs.take k) = varL X.packs.length ++ packsL X.packs by rw [hek, List.take_length])
      rw [HEQ.out]
      have HBL := HB
      have HBL := HB
      have HKR := Lib.hid (HK.out.below HB.out hbl)
      have HIR := Lib.hid (HI.out.below HB.out)
      have c0 : wr.cell? ⟨b, 0, none⟩ = some (.map mb) := HKR.out.cell 0
      have hln := ixmap_len (HM.out.block (fun k hk => HB.out.block k (HI.out.lt k (.inr (.inl hk))))) 3
      have hsum : (bs (varL X.packs.length ++ packsL X.packs)).size + (⟨(varL X.places.length).toArray⟩ : ByteArray).size ≤ 4611686018427387904 := by
        have h2 := HW.out.all
        rw [HLN.out] at h2
        have h3 : (⟨(varL X.places.length).toArray⟩ : ByteArray).size = (varL X.places.length).length := bs_size _
        rw [h3]
        simp only [bs_size, List.length_append]
        omega
      have HEP := Lib.hid (show bs (varL X.packs.length ++ packsL X.packs) ++ (⟨(varL X.places.length).toArray⟩ : ByteArray) = bs (varL X.packs.length ++ packsL X.packs ++ varL X.places.length) from bs_app _ _)
      generalize hO1 : bs (varL X.packs.length ++ packsL X.packs) = O1 at *
      generalize hV2 : (⟨(varL X.places.length).toArray⟩ : ByteArray) = V2 at *
      clear hO1 hV2 hek hk d1 HEQ
      go_wp2_with fail
      refine (HV2.out _).mono ?_
      rintro e w2 ⟨rfl, hb2⟩
      have HB2 := Lib.hid (HB.out.trans (hb2.mono HB.out.size))
      have HI2 := Lib.hid (HIR.out.below hb2)
      clear hb2 c0 hln HIR HKR HB HBL
      go_wp2_with fail
      refine (HNA.out w2 HI2.out).mono ?_
      rintro e w3 ⟨A3, c3, rfl, hs3, hc3, hb3⟩
      have HB3 := Lib.hid (HB2.out.trans (hb3.mono HB2.out.size))
      have HS3 := Lib.hid hs3
      have hln3 : (namesI X.places).length = X.places.length := by unfold namesI; rw [List.length_map]
      clear hb3 hs3 HI2 HB2
      generalize hn3 : (namesI X.places).length = n3 at *
      obtain rfl : n3 = X.places.length := hln3
      clear hn3 hsum
      go_wp2
      go_loopw [3, 44] (fun o i wr => ∃ (k : Nat), i = .int .i64 (k : Nat) ∧ k ≤ X.places.length ∧ o = .string (bs (varL X.packs.length ++ packsL X.packs ++ varL X.places.length ++ plsL X.packs (X.places.take k))) ∧ Below w3.heap.size w3 wr) (fun _ i _ => X.places.length - (intOf i).toNat)
      case atStart => exact ⟨0, rfl, Nat.zero_le _, by rw [HEP.out]; simp [plsL], Below.refl _ _⟩
      case round =>
        obtain ⟨k, rfl, hk, rfl, hb⟩ := hrel
        have HB := Lib.hid hb
        clear hb HEP
        by_cases hkl : k < X.places.length
        · have hek := List.getElem?_eq_getElem hkl
          have hnk : (namesI X.places)[k]? = some X.places[k].1 := by unfold namesI; rw [List.getElem?_map, hek]; rfl
          obtain ⟨g, o, rfl, hgl, hcell⟩ := HS3.out (by unfold namesI; rw [List.length_map]; omega)
          have q0 : wr.cell? ⟨g, o + k, none⟩ = some (.string X.places[k].1) := (HB.out.cell (p := ⟨g, o + k, none⟩) hgl).trans (hcell k _ hnk)
          have hkey := HW.out.ok.key _ (List.getElem_mem hkl)
          have hin := HW.out.ok.inp _ (List.getElem_mem hkl)
          obtain ⟨hsz, hB⟩ := HW.out.sq _ (List.getElem_mem hkl)
          have HBR := Lib.hid (HB3.out.trans (HB.out.mono HB3.out.size))
          have hget := ixmap_get (w := wr) (HM.out.block (fun k hk => HBR.out.block k (HI.out.lt k (.inr (.inl hk))))) HW.out.ok.up hkl (by unfold maxLen; omega)
          have HSN := Lib.hid (plsL_snoc X.packs X.places k hkl)
          have hpl := plL_eq X.packs X.places[k].2
          have htot : (varL X.packs.length).length + (packsL X.packs).length + (varL X.places.length).length + (plsL X.packs (X.places.take k)).length + (plL X.packs X.places[k].2).length ≤ 4611686018427387904 := by
            have h1 := plsL_take X.packs X.places (k + 1)
            have h2 := HW.out.all
            rw [HLN.out] at h2
            rw [HSN.out, List.length_append] at h1
            omega
          have hpl2 := congrArg List.length hpl
          generalize X.places[k] = e at *
          obtain ⟨nm, p⟩ := e
          simp only at *
          obtain ⟨me, cr, pc, sz, aa, hn, b1, b2, b3, b4, b5⟩ := hd_nat hB
          have hnums := numsP_get hn
          obtain ⟨pk, ⟨nm', m', c', z', y', a'⟩⟩ := p
          simp only at *
          obtain ⟨rfl, rfl, rfl, rfl, rfl⟩ := hn
          obtain rfl : nm = nm' := hkey
          rw [hnums] at hpl hpl2
          have HPL := Lib.hid hpl
          unfold plV plC at hget
          simp only [List.length_append] at hpl2
          simp only at hget
          have hix := idx_lt hin
          have HTX := Lib.hid fun W => itxt_any nm W hsz
          have HIX := Lib.hid fun W (h : StrsA W W.heap.size A X.packs) => idx_any A c X.packs pk W h (by omega) hin
          have HVI := Lib.hid fun W => var_any (idxP X.packs pk) W (by omega)
          have hvi := var_size (idxP X.packs pk)
          have hil : idxP X.packs pk < X.packs.length := hix.1
          have hsum1 : (bs (textL nm)).size = (textL nm).length := bs_size _
          have hsum2 : (⟨(varL (idxP X.packs pk)).toArray⟩ : ByteArray).size = (varL (idxP X.packs pk)).length := bs_size _
          have hsum3 : (bs (varL X.packs.length ++ packsL X.packs ++ varL X.places.length ++ plsL X.packs (X.places.take k))).size = (varL X.packs.length).length + (packsL X.packs).length + (varL X.places.length).length + (plsL X.packs (X.places.take k)).length := by rw [bs_size]; simp only [List.length_append]
          have HE1 := Lib.hid (show bs (textL nm) ++ (⟨(varL (idxP X.packs pk)).toArray⟩ : ByteArray) = bs (textL nm ++ varL (idxP X.packs pk)) from bs_app _ _)
          have HE2 := Lib.hid fun l => bs_app (varL X.packs.length ++ packsL X.packs ++ varL X.places.length ++ plsL X.packs (X.places.take k)) l
          have HE3 := Lib.hid (show varL X.packs.length ++ packsL X.packs ++ varL X.places.length ++ plsL X.packs (X.places.take k) ++ plL X.packs ⟨pk, ⟨nm, me, cr, pc, sz, aa⟩⟩ = varL X.packs.length ++ packsL X.packs ++ varL X.places.length ++ plsL X.packs (X.places.take (k + 1)) by rw [HSN.out]; simp only [List.append_assoc])
          rw [hpl2] at htot
          have hE5 : ∀ j, j < 5 → (varsL ([me, cr, pc, sz, aa].take (j + 1))).length ≤ (varsL [me, cr, pc, sz, aa]).length := fun j _ => varsL_take _ _
          have HE5 := Lib.hid hE5
          have hu : IntKind.u64.wrap ((idxP X.packs pk : Nat) : Int) = ((idxP X.packs pk : Nat) : Int) := IntWalk.u64_in _ (by omega)
          generalize plsL X.packs (X.places.take k) = PL at *
          generalize idxP X.packs pk = ix at *
          have y1 := fun W => run_string_add_sum (P := Try.prog) W (bs (textL nm)) (⟨(varL ix).toArray⟩ : ByteArray) (by omega)
          have y2 := fun W => run_string_add_sum (P := Try.prog) W (bs (varL X.packs.length ++ packsL X.packs ++ varL X.places.length ++ PL)) (bs (textL nm) ++ (⟨(varL ix).toArray⟩ : ByteArray)) (by rw [ByteArray.size_append]; omega)
          generalize hOO : bs (varL X.packs.length ++ packsL X.packs ++ varL X.places.length ++ PL) = O at *
          generalize hTT : bs (textL nm) = T at *
          generalize hVV : (⟨(varL ix).toArray⟩ : ByteArray) = V at *
          have HOO := Lib.hid hOO
          have HTT := Lib.hid hTT
          have HVV := Lib.hid hVV
          have c0 : wr.cell? ⟨b, 0, none⟩ = some (.map mb) := (HK.out.below HBR.out hbl).cell 0
          have c1 : wr.cell? ⟨b, 1, none⟩ = some (.slice A X.packs.length c) := (HK.out.below HBR.out hbl).cell 1
          have HSR := Lib.hid (fun W (h : Below wr.heap.size wr W) => (StrsA.below HST.out (HBR.out.trans (h.mono HBR.out.size))))
          have hbr : b < wr.heap.size := Nat.lt_of_lt_of_le hbl HBR.out.size
          clear hcell hek hnk hin hix hB hvi hsum1 hsum2 hsum3 hOO hTT hVV hE5 hpl hpl2 hnums HM
          have hk0 : (0 : Int) ≤ (k : Int) := by omega
          have hk1 : (k : Int) < (X.places.length : Int) := by omega
          have hk3 : ((k : Int)).toNat = k := by omega
          go_upto_region 12 with fail
          have hba : Below wr.heap.size wr (wr.alloc (.cells #[.string pk, .string nm, .int .i64 me, .int .u32 cr, .int .i64 pc, .int .i64 sz, .int .i64 aa] 34)) := (Below.refl _ _).alloc (Nat.le_refl _) _
          have hka := Blk.new wr 34 #[.string pk, .string nm, .int .i64 me, .int .u32 cr, .int .i64 pc, .int .i64 sz, .int .i64 aa]
          generalize wr.alloc (.cells #[.string pk, .string nm, .int .i64 me, .int .u32 cr, .int .i64 pc, .int .i64 sz, .int .i64 aa] 34) = wa at *
          have hgw := hka.lt
          have HKA := Lib.hid hka
          have HBA := Lib.hid hba
          have hS : wa.cell? ⟨b, 1, none⟩ = some (.slice A X.packs.length c) ∧ wa.cell? ⟨wr.heap.size, 0, none⟩ = some (.string pk) ∧ Below wa.heap.size wa wa := ⟨(hba.cell (p := ⟨b, 1, none⟩) hbr).trans c1, hka.cell 0, Below.refl _ _⟩
          have HS := Lib.hid hS
          clear hka hba hS c0 c1 q0 hget
          go_region_held3 (fun W => W.cell? ⟨b, 1, none⟩ = some (.slice A X.packs.length c) ∧ W.cell? ⟨wr.heap.size, 0, none⟩ = some (.string pk) ∧ Below wa.heap.size wa W)
            (first | exact hk4 | exact keep2 HS.out (Below.refl _ _).drew | exact HS.out)
            (first
              | (go_at_call 23; ((with_reducible refine (HTX.out _).mono ?_); rintro e w4 ⟨rfl, hb4⟩; have hk4 := keep2 (by assumption) hb4))
              | (go_at_call 24; ((with_reducible refine (HIX.out _ ?_).mono ?_); (exact HSR.out _ (HBA.out.trans ((keep2B (b := b) (g := wr.heap.size) (by assumption)).mono HBA.out.size))); rintro e w4 ⟨rfl, rfl⟩))
              | (go_at_call 22; ((with_reducible refine (HVI.out _).mono ?_); rintro e w4 ⟨rfl, hb4⟩; have hk4 := keep2 (by assumption) hb4)))
          have HK4 := Lib.hid (HKA.out.below hk4.2.2 hgw)
          have HB4 := Lib.hid (HBA.out.trans (hk4.2.2.mono HBA.out.size))
          have d2 : w4.cell? ⟨wr.heap.size, 2, none⟩ = some (.int .i64 me) := HK4.out.cell 2
          have d3 : w4.cell? ⟨wr.heap.size, 3, none⟩ = some (.int .u32 cr) := HK4.out.cell 3
          have d4 : w4.cell? ⟨wr.heap.size, 4, none⟩ = some (.int .i64 pc) := HK4.out.cell 4
          have d5 : w4.cell? ⟨wr.heap.size, 5, none⟩ = some (.int .i64 sz) := HK4.out.cell 5
          have d6 : w4.cell? ⟨wr.heap.size, 6, none⟩ = some (.int .i64 aa) := HK4.out.cell 6
          have hw2 : IntKind.i64.wrap (cr : Int) = (cr : Int) := IntWalk.i64_in _ (by omega)
          have hg4 : wr.heap.size < w4.heap.size := Nat.lt_of_lt_of_le hgw hk4.2.2.size
          have HEO := Lib.hid (show O ++ (T ++ V) = bs (varL X.packs.length ++ packsL X.packs ++ varL X.places.length ++ PL ++ (textL nm ++ varL ix)) by rw [HE1.out, ← HE2.out])
          have HEF := Lib.hid (show bs (varL X.packs.length ++ packsL X.packs ++ varL X.places.length ++ PL ++ (textL nm ++ varL ix) ++ varsL [me, cr, pc, sz, aa]) = bs (varL X.packs.length ++ packsL X.packs ++ varL X.places.length ++ plsL X.packs (X.places.take (k + 1))) by rw [← HE3.out, HPL.out]; simp only [List.append_assoc])
          have hlen : (varL X.packs.length ++ packsL X.packs ++ varL X.places.length ++ PL ++ (textL nm ++ varL ix)).length + (varsL [me, cr, pc, sz, aa]).length ≤ 4611686018427387904 := by simp only [List.length_append]; omega
          have HLE := Lib.hid hlen
          clear hk4 hb4 y1 y2 HS HKA HBA HTX HIX HVI HOO HTT HVV HE1 HE2 HE3 HSR htot hlen HK4 HPL
          generalize varL X.packs.length ++ packsL X.packs ++ varL X.places.length ++ PL ++ (textL nm ++ varL ix) = HD at *
          generalize O ++ (T ++ V) = OTV at *
          obtain rfl : OTV = bs HD := HEO.out
          clear HEO
          go_wp2
          have hba := (Below.refl w4.heap.size w4).alloc (Nat.le_refl _) (.cells #[.int .i64 me, .int .i64 cr, .int .i64 pc, .int .i64 sz, .int .i64 aa] 3)
          have hka := Blk.new w4 3 #[.int .i64 me, .int .i64 cr, .int .i64 pc, .int .i64 sz, .int .i64 aa]
          generalize w4.alloc (.cells #[.int .i64 me, .int .i64 cr, .int .i64 pc, .int .i64 sz, .int .i64 aa] 3) = w5 at *
          have HBA := Lib.hid (HB4.out.trans (hba.mono HB4.out.size))
          have hg5 := hka.lt
          have HKA := Lib.hid hka
          clear hba hka d2 d3 d4 d5 d6
          go_loopw [3, 86] (fun o i wx => ∃ (j : Nat), i = .int .i64 (j : Nat) ∧ j ≤ 5 ∧ o = .string (bs (HD ++ varsL ([me, cr, pc, sz, aa].take j))) ∧ Below w5.heap.size w5 wx) (fun _ i _ => 5 - (intOf i).toNat)
          case atStart => exact ⟨0, rfl, by omega, by simp [varsL], Below.refl _ _⟩
          case round =>
            obtain ⟨j, rfl, hj, rfl, hbx⟩ := hrel
            have HBX := Lib.hid hbx
            clear hbx
            by_cases hj5 : j < 5
            · obtain ⟨x, hxl, hxe, hxb, hxc⟩ := five_cells (HKA.out.below HBX.out hg5) b1 b2 b3 b4 b5 hj5
              have HSX := Lib.hid (show bs (HD ++ varsL ([me, cr, pc, sz, aa].take j)) ++ (⟨(varL x).toArray⟩ : ByteArray) = bs (HD ++ varsL ([me, cr, pc, sz, aa].take (j + 1))) by
                rw [varsL_snoc _ j hxl, hxe, ← List.append_assoc]; exact bs_app _ _)
              have hsx : (bs (HD ++ varsL ([me, cr, pc, sz, aa].take j))).size + (⟨(varL x).toArray⟩ : ByteArray).size ≤ 4611686018427387904 := by
                have h1 : (⟨(varL x).toArray⟩ : ByteArray).size = (varL x).length := bs_size _
                have h2 := HE5.out j hj5
                rw [varsL_snoc _ j hxl, hxe, List.length_append] at h2
                have h3 := HLE.out
                rw [h1, bs_size, List.length_append]
                omega
              have HVX := Lib.hid fun W => var_any x W (by omega)
              have hux : IntKind.u64.wrap (x : Int) = (x : Int) := IntWalk.u64_in _ (by omega)
              generalize (⟨(varL x).toArray⟩ : ByteArray) = VX at *
              generalize bs (HD ++ varsL ([me, cr, pc, sz, aa].take j)) = OX at *
              have hj0 : (0 : Int) ≤ (j : Int) := by omega
              have hj1 : (j : Int) < 5 := by omega
              have hj3 : ((j : Int)).toNat = j := by omega
              clear hxe hxl hj
              go_wp2_with fail
              refine (HVX.out _).mono ?_
              rintro e w6 ⟨rfl, hb6⟩
              have HB6 := Lib.hid (HBX.out.trans (hb6.mono HBX.out.size))
              clear hb6
              go_wp2
              go_roundw
              case rel => exact ⟨j + 1, by go_num, by omega, by rw [HSX.out], HB6.out⟩
              case measure => simp [intOf]; omega
            · have hj5e : j = 5 := by omega
              have HFX := Lib.hid (show bs (HD ++ varsL ([me, cr, pc, sz, aa].take j)) = bs (varL X.packs.length ++ packsL X.packs ++ varL X.places.length ++ plsL X.packs (X.places.take (k + 1))) by rw [hj5e]; exact HEF.out)
              have HBZ := Lib.hid (HB.out.trans ((HBA.out.trans (HBX.out.mono HBA.out.size)).mono HB.out.size))
              generalize bs (HD ++ varsL ([me, cr, pc, sz, aa].take j)) = OX at *
              clear hj5e
              go_wp2
              go_roundw
              case rel => exact ⟨k + 1, by go_num, by omega, by rw [HFX.out], HBZ.out⟩
              case measure => simp [intOf]; omega
        · have hek : k = X.places.length := by omega
          have HFE := Lib.hid (show bs (varL X.packs.length ++ packsL X.packs ++ varL X.places.length ++ plsL X.packs (X.places.take k)) = bs (encI X) by rw [hek, List.take_length]; rfl)
          have HBF := Lib.hid (HB3.out.trans (HB.out.mono HB3.out.size))
          go_wp2
          go_ret
          exact ⟨ret_str HFE.out, HBF.out⟩
end Go.Proofs.Ytopmanmjggcfaaa
