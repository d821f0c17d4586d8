/- The document's index: Text. -/
import Derived.Test.YtopmanmjggcfaaaJc
import Derived.Test.YtopmanmjggcfaaaIe
namespace Go.Proofs.Ytopmanmjggcfaaa
open Go.RowKit

theorem keepT {w0 W W' : World} {bx gp gh : Nat} {u0 u1 v0 h0 h1 h2 h3 h4 h5 : Value}
    (h : (W.cell? ⟨bx, 0, none⟩ = some u0 ∧ W.cell? ⟨bx, 1, none⟩ = some u1 ∧ W.cell? ⟨gp, 0, none⟩ = some v0 ∧ W.cell? ⟨gh, 0, none⟩ = some h0 ∧ W.cell? ⟨gh, 1, none⟩ = some h1 ∧ W.cell? ⟨gh, 2, none⟩ = some h2 ∧ W.cell? ⟨gh, 3, none⟩ = some h3 ∧ W.cell? ⟨gh, 4, none⟩ = some h4 ∧ W.cell? ⟨gh, 5, none⟩ = some h5 ∧ Below w0.heap.size w0 W)) (hb : Below W.heap.size W W') :
    W'.cell? ⟨bx, 0, none⟩ = some u0 ∧ W'.cell? ⟨bx, 1, none⟩ = some u1 ∧ W'.cell? ⟨gp, 0, none⟩ = some v0 ∧ W'.cell? ⟨gh, 0, none⟩ = some h0 ∧ W'.cell? ⟨gh, 1, none⟩ = some h1 ∧ W'.cell? ⟨gh, 2, none⟩ = some h2 ∧ W'.cell? ⟨gh, 3, none⟩ = some h3 ∧ W'.cell? ⟨gh, 4, none⟩ = some h4 ∧ W'.cell? ⟨gh, 5, none⟩ = some h5 ∧ Below w0.heap.size w0 W' := by
  have k : ∀ {p : Addr} {u : Value}, W.cell? p = some u → W'.cell? p = some u := fun {p u} hp => (hb.cell (World.block_lt_of_cell? _ _ hp)).trans hp
  obtain ⟨a, b, c, d, e, f, g, i, j, l⟩ := h
  exact ⟨k a, k b, k c, k d, k e, k f, k g, k i, k j, l.trans (hb.mono l.size)⟩
theorem keepTB {w0 W : World} {bx gp gh : Nat} {u0 u1 v0 h0 h1 h2 h3 h4 h5 : Value}
    (h : (W.cell? ⟨bx, 0, none⟩ = some u0 ∧ W.cell? ⟨bx, 1, none⟩ = some u1 ∧ W.cell? ⟨gp, 0, none⟩ = some v0 ∧ W.cell? ⟨gh, 0, none⟩ = some h0 ∧ W.cell? ⟨gh, 1, none⟩ = some h1 ∧ W.cell? ⟨gh, 2, none⟩ = some h2 ∧ W.cell? ⟨gh, 3, none⟩ = some h3 ∧ W.cell? ⟨gh, 4, none⟩ = some h4 ∧ W.cell? ⟨gh, 5, none⟩ = some h5 ∧ Below w0.heap.size w0 W)) : Below w0.heap.size w0 W := h.2.2.2.2.2.2.2.2.2
/-- two cells -/
def Cx (w : World) (b : Nat) (u v : Value) : Prop := w.cell? ⟨b, 0, none⟩ = some u ∧ w.cell? ⟨b, 1, none⟩ = some v
theorem Cx.of_blk {w : World} {b : Nat} {t : TypeId} {u v : Value} (h : Blk w b t #[u, v]) : Cx w b u v := ⟨h.cell 0, h.cell 1⟩
theorem Cx.below {w w' : World} {b : Nat} {u v : Value} (h : Cx w b u v) (hb : Below w.heap.size w w') : Cx w' b u v := ⟨(hb.cell (World.block_lt_of_cell? _ _ h.1)).trans h.1, (hb.cell (World.block_lt_of_cell? _ _ h.2)).trans h.2⟩
def valsI (X : Ix) : List Pl := X.places.map (·.2)
theorem valsI_len (X : Ix) : (valsI X).length = X.places.length := by unfold valsI; rw [List.length_map]
set_option maxRecDepth 100000 in
set_option maxHeartbeats 6400000 in
theorem rtextI_any (X : Ix) (A B : Option Addr) (c d : Nat) (w : World) (hst : StrsA w w.heap.size A X.packs) (hro : RowA w w.heap.size 7 B ((valsI X).map plC)) (hw : X.Wr) :
    Calls Try.prog 15 #[rixV X.packs (valsI X) A c B d] w fun e w' => e = .returned (.string (bs (encI X))) ∧ Below w.heap.size w w' := by
  have HW := Lib.hid hw
  have HLN := Lib.hid (encI_len X)
  have hnp := hw.np
  have hnq := hw.nq
  have HV1 := Lib.hid fun W => refvar_any X.packs.length W (by omega)
  have HV2 := Lib.hid fun W => refvar_any X.places.length W (by omega)
  have u1 : IntKind.u64.wrap (X.packs.length : Int) = (X.packs.length : Int) := IntWalk.u64_in _ (by omega)
  have u2 : IntKind.u64.wrap (X.places.length : Int) = (X.places.length : Int) := IntWalk.u64_in _ (by omega)
  have HST := Lib.hid hst
  have HRO := Lib.hid hro
  unfold rixV
  have hvl := valsI_len X
  clear hw hst hro
  generalize hnL : (valsI X).length = nL at *
  obtain rfl : nL = X.places.length := hvl
  have HNL := Lib.hid hnL
  clear hnL
  go_enter Try.func15, Try.ntmps15
  have hb0 : Below w.heap.size w (w.alloc (.cells #[.slice A X.packs.length c, .slice B X.places.length d] 43)) := (Below.refl w.heap.size w).alloc (Nat.le_refl _) _
  have HK0 := Lib.hid (Blk.new w 43 #[.slice A X.packs.length c, .slice B X.places.length d])
  have HB0 := Lib.hid hb0
  clear hb0
  go_wp2_with fail
  refine (HV1.out _).mono ?_
  rintro e w1 ⟨rfl, hb1⟩
  have HK1 := Lib.hid (HK0.out.below hb1 HK0.out.lt)
  have HB1 := Lib.hid (HB0.out.trans (hb1.mono HB0.out.size))
  clear hb1 HK0 HB0
  have c0 : w1.cell? ⟨w.heap.size, 0, none⟩ = some (.slice A X.packs.length c) := HK1.out.cell 0
  go_wp2
  go_loopw [3, 17] (fun o i wr => ∃ (k : Nat), i = .int .i64 (k : Nat) ∧ k ≤ X.packs.length ∧ o = .string (bs (varL X.packs.length ++ packsL (X.packs.take k))) ∧ Blk wr w.heap.size 43 #[.slice A X.packs.length c, .slice B X.places.length d] ∧ Below w.heap.size w wr) (fun _ i _ => X.packs.length - (intOf i).toNat)
  case atStart => exact ⟨0, rfl, Nat.zero_le _, by simp [packsL, bs], HK1.out, HB1.out⟩
  case round =>
    obtain ⟨k, rfl, hk, rfl, hbk, hb⟩ := hrel
    have HKR := Lib.hid hbk
    have HB := Lib.hid hb
    clear hb hbk c0
    by_cases hkl : k < X.packs.length
    · have hek := List.getElem?_eq_getElem hkl
      obtain ⟨g, o, rfl, hgl, hcell⟩ := HST.out (by omega)
      have q0 : wr.cell? ⟨g, o + k, none⟩ = some (.string X.packs[k]) := (HB.out.cell (p := ⟨g, o + k, none⟩) hgl).trans (hcell k _ hek)
      have HSN := Lib.hid (packsL_snoc X.packs k hkl)
      have hsz : X.packs[k].size ≤ 140737488355328 := HW.out.sp _ (List.getElem_mem hkl)
      have hsum : (bs (varL X.packs.length ++ packsL (X.packs.take k))).size + (bs (textL X.packs[k])).size ≤ 4611686018427387904 := by
        have h1 := packsL_take X.packs (k + 1)
        have h2 := HW.out.all
        rw [HLN.out] at h2
        rw [HSN.out, List.length_append] at h1
        simp only [bs_size, List.length_append]
        omega
      have HAP := Lib.hid (bs_app (varL X.packs.length ++ packsL (X.packs.take k)) (textL X.packs[k]))
      have HTX := Lib.hid fun W => rtxt_any X.packs[k] W hsz
      have hk0 : (0 : Int) ≤ (k : Int) := by omega
      have hk1 : (k : Int) < (X.packs.length : Int) := by omega
      have hk3 : ((k : Int)).toNat = k := by omega
      clear hcell hek
      have HSX := Lib.hid (show varL X.packs.length ++ packsL (X.packs.take k) ++ textL X.packs[k] = varL X.packs.length ++ packsL (X.packs.take (k + 1)) by rw [HSN.out, List.append_assoc])
      generalize X.packs[k] = p at *
      generalize hO : bs (varL X.packs.length ++ packsL (X.packs.take k)) = O at *
      generalize hT : bs (textL p) = T at *
      clear hO hT
      go_wp2_with fail
      refine (HTX.out _).mono ?_
      rintro e w2 ⟨rfl, hb2⟩
      have HB2 := Lib.hid (HB.out.trans (hb2.mono HB.out.size))
      have HK2 := Lib.hid (HKR.out.below hb2 HKR.out.lt)
      clear hb2
      go_wp2
      go_roundw
      case rel => exact ⟨k + 1, by go_num, by omega, by rw [HAP.out, HSX.out], HK2.out, HB2.out⟩
      case measure => simp [intOf]; omega
    · have hek : k = X.packs.length := by omega
      have HEQ := Lib.hid (show bs (varL X.packs.length ++ packsL (X.packs.take k)) = bs (varL X.packs.length ++ packsL X.packs) by rw [hek, List.take_length])
      rw [HEQ.out]
      have hsum : (bs (varL X.packs.length ++ packsL X.packs)).size + (⟨(varL X.places.length).toArray⟩ : ByteArray).size ≤ 4611686018427387904 := by
        have h2 := HW.out.all
        rw [HLN.out] at h2
        have h3 : (⟨(varL X.places.length).toArray⟩ : ByteArray).size = (varL X.places.length).length := bs_size _
        rw [h3]
        simp only [bs_size, List.length_append]
        omega
      have HEP := Lib.hid (show bs (varL X.packs.length ++ packsL X.packs) ++ (⟨(varL X.places.length).toArray⟩ : ByteArray) = bs (varL X.packs.length ++ packsL X.packs ++ varL X.places.length) from bs_app _ _)
      generalize hO1 : bs (varL X.packs.length ++ packsL X.packs) = O1 at *
      generalize hV2 : (⟨(varL X.places.length).toArray⟩ : ByteArray) = V2 at *
      clear hO1 hV2 hek hk HEQ
      have c1 : wr.cell? ⟨w.heap.size, 1, none⟩ = some (.slice B X.places.length d) := HKR.out.cell 1
      go_wp2_with fail
      refine (HV2.out _).mono ?_
      rintro e w2 ⟨rfl, hb2⟩
      have HB2 := Lib.hid (HB.out.trans (hb2.mono HB.out.size))
      have HK2 := Lib.hid (HKR.out.below hb2 HKR.out.lt)
      have c2 : w2.cell? ⟨w.heap.size, 1, none⟩ = some (.slice B X.places.length d) := HK2.out.cell 1
      clear hb2 c1 HKR HB
      go_wp2
      clear hsum c2
      go_loopw [3, 36] (fun o i wr => ∃ (k : Nat), i = .int .i64 (k : Nat) ∧ k ≤ X.places.length ∧ o = .string (bs (varL X.packs.length ++ packsL X.packs ++ varL X.places.length ++ plsL X.packs (X.places.take k))) ∧ Cx wr w.heap.size (.slice A X.packs.length c) (.slice B X.places.length d) ∧ Below w.heap.size w wr) (fun _ i _ => X.places.length - (intOf i).toNat)
      case atStart => exact ⟨0, rfl, Nat.zero_le _, by rw [HEP.out]; simp [plsL], Cx.of_blk HK2.out, HB2.out⟩
      case round =>
        obtain ⟨k, rfl, hk, rfl, hkx, hb⟩ := hrel
        have HB := Lib.hid hb
        have HKX := Lib.hid hkx
        clear hb HEP hkx HK2 HB2
        by_cases hkl : k < X.places.length
        · have hek := List.getElem?_eq_getElem hkl
          obtain ⟨g, o, rfl, hgl, hcell⟩ := HRO.out (by rw [List.length_map, HNL.out]; omega)
          have hpc := hcell k (plC X.places[k].2) (by unfold valsI; rw [List.getElem?_map, List.getElem?_map, hek]; rfl)
          have HPC := Lib.hid fun (i : Nat) (u : Value) (hi : (plC X.places[k].2)[i]? = some u) => (HB.out.cell (p := ⟨g, o + k * 7 + i, none⟩) hgl).trans (hpc i u hi)
          have hkey := HW.out.ok.key _ (List.getElem_mem hkl)
          have hin := HW.out.ok.inp _ (List.getElem_mem hkl)
          obtain ⟨hsz, hB⟩ := HW.out.sq _ (List.getElem_mem hkl)
          have HSN := Lib.hid (plsL_snoc X.packs X.places k hkl)
          have hpl := plL_eq X.packs X.places[k].2
          have htot : (varL X.packs.length).length + (packsL X.packs).length + (varL X.places.length).length + (plsL X.packs (X.places.take k)).length + (plL X.packs X.places[k].2).length ≤ 4611686018427387904 := by
            have h1 := plsL_take X.packs X.places (k + 1)
            have h2 := HW.out.all
            rw [HLN.out] at h2
            rw [HSN.out, List.length_append] at h1
            omega
          have hpl2 := congrArg List.length hpl
          generalize X.places[k] = e at *
          obtain ⟨nm, p⟩ := e
          simp only at *
          obtain ⟨me, cr, pc, sz, aa, hn, b1, b2, b3, b4, b5⟩ := hd_nat hB
          have hnums := numsP_get hn
          obtain ⟨pk, ⟨nm', m', c', z', y', a'⟩⟩ := p
          simp only at *
          obtain ⟨rfl, rfl, rfl, rfl, rfl⟩ := hn
          obtain rfl : nm = nm' := hkey
          rw [hnums] at hpl hpl2
          have HPL := Lib.hid hpl
          simp only [List.length_append] at hpl2
          have hvs : varsL [me, cr, pc, sz, aa] = varL me ++ varL cr ++ varL pc ++ varL sz ++ varL aa := by simp [varsL]
          have hvl := congrArg List.length hvs
          simp only [List.length_append] at hvl
          have hnp' := numP_in hin
          have hil := (idx_lt hin).1
          have hin' := hin
          have HNU := Lib.hid fun W h => rnumber_any X.packs (valsI X) A (some ⟨g, o, none⟩) c d pk W h (by omega)
          rw [hnp'] at HNU
          unfold rixV at HNU
          rw [HNL.out] at HNU
          have HTX := Lib.hid fun W => rtxt_any nm W hsz
          have HVI := Lib.hid fun W => refvar_any (idxP X.packs pk) W (by omega)
          have HV1' := Lib.hid fun W => refvar_any me W (by omega)
          have HV2' := Lib.hid fun W => refvar_any cr W (by omega)
          have HV3' := Lib.hid fun W => refvar_any pc W (by omega)
          have HV4' := Lib.hid fun W => refvar_any sz W (by omega)
          have HV5' := Lib.hid fun W => refvar_any aa W (by omega)
          have ui : IntKind.u64.wrap ((idxP X.packs pk : Nat) : Int) = ((idxP X.packs pk : Nat) : Int) := IntWalk.u64_in _ (by omega)
          have w1' : IntKind.u64.wrap (me : Int) = (me : Int) := IntWalk.u64_in _ (by omega)
          have w2' : IntKind.u64.wrap (cr : Int) = (cr : Int) := IntWalk.u64_in _ (by omega)
          have w3' : IntKind.u64.wrap (pc : Int) = (pc : Int) := IntWalk.u64_in _ (by omega)
          have w4' : IntKind.u64.wrap (sz : Int) = (sz : Int) := IntWalk.u64_in _ (by omega)
          have w5' : IntKind.u64.wrap (aa : Int) = (aa : Int) := IntWalk.u64_in _ (by omega)
          have s0 : (bs (textL nm)).size = (textL nm).length := bs_size _
          have si : (⟨(varL (idxP X.packs pk)).toArray⟩ : ByteArray).size = (varL (idxP X.packs pk)).length := bs_size _
          have s1 : (⟨(varL me).toArray⟩ : ByteArray).size = (varL me).length := bs_size _
          have s2 : (⟨(varL cr).toArray⟩ : ByteArray).size = (varL cr).length := bs_size _
          have s3 : (⟨(varL pc).toArray⟩ : ByteArray).size = (varL pc).length := bs_size _
          have s4 : (⟨(varL sz).toArray⟩ : ByteArray).size = (varL sz).length := bs_size _
          have s5 : (⟨(varL aa).toArray⟩ : ByteArray).size = (varL aa).length := bs_size _
          have so : (bs (varL X.packs.length ++ packsL X.packs ++ varL X.places.length ++ plsL X.packs (X.places.take k))).size = (varL X.packs.length).length + (packsL X.packs).length + (varL X.places.length).length + (plsL X.packs (X.places.take k)).length := by rw [bs_size]; simp only [List.length_append]
          have HF := Lib.hid (show bs (varL X.packs.length ++ packsL X.packs ++ varL X.places.length ++ plsL X.packs (X.places.take k)) ++ (bs (textL nm) ++ (⟨(varL (idxP X.packs pk)).toArray⟩ : ByteArray) ++ (⟨(varL me).toArray⟩ : ByteArray) ++ (⟨(varL cr).toArray⟩ : ByteArray) ++ (⟨(varL pc).toArray⟩ : ByteArray) ++ (⟨(varL sz).toArray⟩ : ByteArray) ++ (⟨(varL aa).toArray⟩ : ByteArray)) = bs (varL X.packs.length ++ packsL X.packs ++ varL X.places.length ++ plsL X.packs (X.places.take (k + 1))) by
            rw [HSN.out, HPL.out, hvs]
            apply ba_inj
            simp only [ByteArray.data_append, Array.toList_append, bs_list, List.append_assoc])
          rw [hpl2, hvl] at htot
          generalize plsL X.packs (X.places.take k) = PL at *
          generalize idxP X.packs pk = ix at *
          generalize hOO : bs (varL X.packs.length ++ packsL X.packs ++ varL X.places.length ++ PL) = O at *
          generalize bs (textL nm) = T at *
          generalize (⟨(varL ix).toArray⟩ : ByteArray) = V at *
          generalize (⟨(varL me).toArray⟩ : ByteArray) = V1 at *
          generalize (⟨(varL cr).toArray⟩ : ByteArray) = V2' at *
          generalize (⟨(varL pc).toArray⟩ : ByteArray) = V3 at *
          generalize (⟨(varL sz).toArray⟩ : ByteArray) = V4 at *
          generalize (⟨(varL aa).toArray⟩ : ByteArray) = V5 at *
          have y1 := fun W => run_string_add_sum (P := Try.prog) W T V (by omega)
          have y2 := fun W => run_string_add_sum (P := Try.prog) W (T ++ V) V1 (by simp only [ByteArray.size_append]; omega)
          have y3 := fun W => run_string_add_sum (P := Try.prog) W (T ++ V ++ V1) V2' (by simp only [ByteArray.size_append]; omega)
          have y4 := fun W => run_string_add_sum (P := Try.prog) W (T ++ V ++ V1 ++ V2') V3 (by simp only [ByteArray.size_append]; omega)
          have y5 := fun W => run_string_add_sum (P := Try.prog) W (T ++ V ++ V1 ++ V2' ++ V3) V4 (by simp only [ByteArray.size_append]; omega)
          have y6 := fun W => run_string_add_sum (P := Try.prog) W (T ++ V ++ V1 ++ V2' ++ V3 ++ V4) V5 (by simp only [ByteArray.size_append]; omega)
          have y7 := fun W => run_string_add_sum (P := Try.prog) W O (T ++ V ++ V1 ++ V2' ++ V3 ++ V4 ++ V5) (by simp only [ByteArray.size_append]; omega)
          have HOO := Lib.hid hOO
          have HY := Lib.hid (And.intro y1 (And.intro y2 (And.intro y3 (And.intro y4 (And.intro y5 (And.intro y6 y7))))))
          have q0 : wr.cell? ⟨g, o + k * 7, none⟩ = some (.string pk) := HPC.out 0 _ rfl
          have q1 : wr.cell? ⟨g, o + k * 7 + 1, none⟩ = some (.string nm) := HPC.out 1 _ rfl
          have q2 : wr.cell? ⟨g, o + k * 7 + 2, none⟩ = some (.int .i64 me) := HPC.out 2 _ rfl
          have q3 : wr.cell? ⟨g, o + k * 7 + 3, none⟩ = some (.int .u32 cr) := HPC.out 3 _ rfl
          have q4 : wr.cell? ⟨g, o + k * 7 + 4, none⟩ = some (.int .i64 pc) := HPC.out 4 _ rfl
          have q5 : wr.cell? ⟨g, o + k * 7 + 5, none⟩ = some (.int .i64 sz) := HPC.out 5 _ rfl
          have q6 : wr.cell? ⟨g, o + k * 7 + 6, none⟩ = some (.int .i64 aa) := HPC.out 6 _ rfl
          have hk0 : (0 : Int) ≤ (k : Int) := by omega
          have hk1 : (k : Int) < (X.places.length : Int) := by omega
          have hk3 : ((k : Int)).toNat = k := by omega
          clear y1 y2 y3 y4 y5 y6 y7 s0 si s1 s2 s3 s4 s5 so hcell hek hpc HPC hin hin' hnp' hpl hpl2 hnums hOO hvs hvl htot hB
          go_upto_region 11 with fail
          have hba : Below wr.heap.size wr (wr.alloc (.cells #[.string pk, .string nm, .int .i64 me, .int .u32 cr, .int .i64 pc, .int .i64 sz, .int .i64 aa] 50)) := (Below.refl _ _).alloc (Nat.le_refl _) _
          have HKA := Lib.hid (Blk.new wr 50 #[.string pk, .string nm, .int .i64 me, .int .u32 cr, .int .i64 pc, .int .i64 sz, .int .i64 aa])
          have HBA := Lib.hid (HB.out.trans (hba.mono HB.out.size))
          have HXA := Lib.hid (HKX.out.below hba)
          clear hba q0 q1 q2 q3 q4 q5 q6 HKX HB hk0 hk1 hk3
          generalize wr.alloc (.cells #[.string pk, .string nm, .int .i64 me, .int .u32 cr, .int .i64 pc, .int .i64 sz, .int .i64 aa] 50) = wa at *
          have a1 : wa.cell? ⟨wr.heap.size, 1, none⟩ = some (.string nm) := HKA.out.cell 1
          have a2 : wa.cell? ⟨wr.heap.size, 2, none⟩ = some (.int .i64 me) := HKA.out.cell 2
          have a3 : wa.cell? ⟨wr.heap.size, 3, none⟩ = some (.int .u32 cr) := HKA.out.cell 3
          have a4 : wa.cell? ⟨wr.heap.size, 4, none⟩ = some (.int .i64 pc) := HKA.out.cell 4
          have a5 : wa.cell? ⟨wr.heap.size, 5, none⟩ = some (.int .i64 sz) := HKA.out.cell 5
          have a6 : wa.cell? ⟨wr.heap.size, 6, none⟩ = some (.int .i64 aa) := HKA.out.cell 6
          go_upto_region 12 with fail
          have hbb : Below wa.heap.size wa (wa.alloc (.cells #[.string nm, .int .i64 me, .int .u32 cr, .int .i64 pc, .int .i64 sz, .int .i64 aa] 47)) := (Below.refl _ _).alloc (Nat.le_refl _) _
          have HKH := Lib.hid (Blk.new wa 47 #[.string nm, .int .i64 me, .int .u32 cr, .int .i64 pc, .int .i64 sz, .int .i64 aa])
          have HBB := Lib.hid (HBA.out.trans (hbb.mono HBA.out.size))
          have HXB := Lib.hid (HXA.out.below hbb)
          have HKB := Lib.hid (HKA.out.below hbb HKA.out.lt)
          clear hbb a1 a2 a3 a4 a5 a6 HKA HBA HXA
          generalize wa.alloc (.cells #[.string nm, .int .i64 me, .int .u32 cr, .int .i64 pc, .int .i64 sz, .int .i64 aa] 47) = wb at *
          have hS : wb.cell? ⟨w.heap.size, 0, none⟩ = some (.slice A X.packs.length c) ∧ wb.cell? ⟨w.heap.size, 1, none⟩ = some (.slice (some ⟨g, o, none⟩) X.places.length d) ∧ wb.cell? ⟨wr.heap.size, 0, none⟩ = some (.string pk) ∧ wb.cell? ⟨wa.heap.size, 0, none⟩ = some (.string nm) ∧ wb.cell? ⟨wa.heap.size, 1, none⟩ = some (.int .i64 me) ∧ wb.cell? ⟨wa.heap.size, 2, none⟩ = some (.int .u32 cr) ∧ wb.cell? ⟨wa.heap.size, 3, none⟩ = some (.int .i64 pc) ∧ wb.cell? ⟨wa.heap.size, 4, none⟩ = some (.int .i64 sz) ∧ wb.cell? ⟨wa.heap.size, 5, none⟩ = some (.int .i64 aa) ∧ Below w.heap.size w wb :=
            ⟨HXB.out.1, HXB.out.2, HKB.out.cell 0, HKH.out.cell 0, HKH.out.cell 1, HKH.out.cell 2, HKH.out.cell 3, HKH.out.cell 4, HKH.out.cell 5, HBB.out⟩
          have HS := Lib.hid hS
          have HSR := Lib.hid fun W (h : Below w.heap.size w W) => StrsA.below HST.out h
          obtain ⟨y1, y2, y3, y4, y5, y6, y7⟩ := HY.out
          clear hS HY
          go_region_held3 (fun W => W.cell? ⟨w.heap.size, 0, none⟩ = some (.slice A X.packs.length c) ∧ W.cell? ⟨w.heap.size, 1, none⟩ = some (.slice (some ⟨g, o, none⟩) X.places.length d) ∧ W.cell? ⟨wr.heap.size, 0, none⟩ = some (.string pk) ∧ W.cell? ⟨wa.heap.size, 0, none⟩ = some (.string nm) ∧ W.cell? ⟨wa.heap.size, 1, none⟩ = some (.int .i64 me) ∧ W.cell? ⟨wa.heap.size, 2, none⟩ = some (.int .u32 cr) ∧ W.cell? ⟨wa.heap.size, 3, none⟩ = some (.int .i64 pc) ∧ W.cell? ⟨wa.heap.size, 4, none⟩ = some (.int .i64 sz) ∧ W.cell? ⟨wa.heap.size, 5, none⟩ = some (.int .i64 aa) ∧ Below w.heap.size w W)
            (first | exact hk4 | exact keepT HS.out (Below.refl _ _).drew | exact HS.out)
            (first
              | (go_at_call 28; ((with_reducible refine (HTX.out _).mono ?_); rintro e w4 ⟨rfl, hb4⟩; have hk4 := keepT (by assumption) hb4))
              | (go_at_call 25; ((with_reducible refine (HNU.out _ ?_).mono ?_); (exact HSR.out _ (keepTB (by assumption))); rintro e w4 ⟨rfl, hb4⟩; have hk4 := keepT (by assumption) hb4))
              | (go_at_call 27; ((with_reducible refine (HVI.out _).mono ?_); rintro e w4 ⟨rfl, hb4⟩; have hk4 := keepT (by assumption) hb4))
              | (go_at_call 27; ((with_reducible refine (HV1'.out _).mono ?_); rintro e w4 ⟨rfl, hb4⟩; have hk4 := keepT (by assumption) hb4))
              | (go_at_call 27; ((with_reducible refine (HV2'.out _).mono ?_); rintro e w4 ⟨rfl, hb4⟩; have hk4 := keepT (by assumption) hb4))
              | (go_at_call 27; ((with_reducible refine (HV3'.out _).mono ?_); rintro e w4 ⟨rfl, hb4⟩; have hk4 := keepT (by assumption) hb4))
              | (go_at_call 27; ((with_reducible refine (HV4'.out _).mono ?_); rintro e w4 ⟨rfl, hb4⟩; have hk4 := keepT (by assumption) hb4))
              | (go_at_call 27; ((with_reducible refine (HV5'.out _).mono ?_); rintro e w4 ⟨rfl, hb4⟩; have hk4 := keepT (by assumption) hb4)))
          have HB4 := Lib.hid (keepTB hk4)
          have HK4 := Lib.hid (show Cx w4 w.heap.size (.slice A X.packs.length c) (.slice (some ⟨g, o, none⟩) X.places.length d) from ⟨hk4.1, hk4.2.1⟩)
          clear hk4 hb4 y1 y2 y3 y4 y5 y6 y7
          rw [HF.out]
          go_wp2
          go_roundw
          case rel => exact ⟨k + 1, by go_num, by omega, rfl, HK4.out, HB4.out⟩
          case measure => simp [intOf]; omega
        · have hek : k = X.places.length := by omega
          have HFE := Lib.hid (show bs (varL X.packs.length ++ packsL X.packs ++ varL X.places.length ++ plsL X.packs (X.places.take k)) = bs (encI X) by rw [hek, List.take_length]; rfl)
          go_wp2
          go_ret
          exact ⟨ret_str HFE.out, HB.out⟩
end Go.Proofs.Ytopmanmjggcfaaa
