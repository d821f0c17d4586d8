/- ManifestTexts, walked. -/
import Derived.Test.YtbjompcaekbjoaaDoorMo
import Derived.Test.YtbjompcaekbjoaaDoorMq
import Derived.Test.YtbjompcaekbjoaaDoorMr
namespace Go.Proofs.YtbjompcaekbjoaaDoor
open Go.RowKit

set_option maxRecDepth 100000 in
set_option maxHeartbeats 3200000 in
theorem texts_all (m : Man) (s : ByteArray) (A : Option Addr) (c : Nat) (w : World) (he : Env w) (ha : ManIn w m A c) (hs : s.size ≤ 140737488355328) :
    Calls Tryd.prog 3 #[manV m A c, .string s] w fun e w' => e = .returned (.bool true) ∧ Below w.heap.size w w' := by
  obtain ⟨a1, a2, a3, a4, a5⟩ := ha
  have HE := Lib.hid fun W (hb : Below w.heap.size w W) => he.below hb
  have HFA := Lib.hid fun W (hb : Below w.heap.size w W) => mfew_any m A c W (a1.low hb) a2 a3 a4
  have HAB := Lib.hid a5.few
  have HFW := Lib.hid fun W => sfew_any s 2000 W hs
  have HAW := Lib.hid fun W (h : Env W) => awake19_any W h
  have HB0 := Lib.hid (((Below.refl w.heap.size w).alloc (Nat.le_refl _) (.cells #[.int .i64 m.time, .string m.tag, .string m.parent, .int .i64 m.size, .slice A m.chunks.length c] 24)))
  have hba := Blk.new w 24 #[.int .i64 m.time, .string m.tag, .string m.parent, .int .i64 m.size, .slice A m.chunks.length c]
  have HBA := Lib.hid hba
  have i0 : (w.alloc (.cells #[.int .i64 m.time, .string m.tag, .string m.parent, .int .i64 m.size, .slice A m.chunks.length c] 24)).cell? ⟨w.heap.size, 0, none⟩ = some (.int .i64 m.time) := hba.cell 0
  clear a1 a2 a3 a4 a5 hba he i0
  have hl60 : (fewM m).chunks.length ≤ 60 := by simp only [fewM, List.length_take]; omega
  unfold manV
  go_enter Tryd.func3, Tryd.ntmps3
  go_wp2_with fail
  refine (HFA.out _ HB0.out).mono ?_
  rintro e w3 ⟨A3, c3, he3, hs3, hb3, hl3, hf3⟩
  unfold manV at he3
  subst he3
  have hi3 := HBA.out.below hb3 HBA.out.lt
  have hB3 := HB0.out.trans (hb3.mono HB0.out.size)
  have hU := put5_blk hi3 (fewM m) A3 c3
  have hUs : StrsA (put5 w3 w.heap.size (fewM m) A3 c3) (put5 w3 w.heap.size (fewM m) A3 c3).heap.size A3 (fewM m).chunks := hs3.only (put5_only w3 w.heap.size (fewM m) A3 c3) (n := w.heap.size + 1) (by omega) (fun b' o e hl => by have := hf3 b' o e hl; simpa using this)
  have hUb : Below w.heap.size w (put5 w3 w.heap.size (fewM m) A3 c3) := (put5_only w3 w.heap.size (fewM m) A3 c3).low hB3 hB3.size (Nat.le_refl _)
  have p0 : w3.cell? ⟨w.heap.size, 0, none⟩ = some (.int .i64 m.time) := hi3.cell 0
  have p1 : w3.cell? ⟨w.heap.size, 1, none⟩ = some (.string m.tag) := hi3.cell 1
  have p2 : w3.cell? ⟨w.heap.size, 2, none⟩ = some (.string m.parent) := hi3.cell 2
  have p3 : w3.cell? ⟨w.heap.size, 3, none⟩ = some (.int .i64 m.size) := hi3.cell 3
  have p4 : w3.cell? ⟨w.heap.size, 4, none⟩ = some (.slice A m.chunks.length c) := hi3.cell 4
  have g0 := hi3.frozen 0
  have g1 := hi3.frozen 1
  have g2 := hi3.frozen 2
  have g3 := hi3.frozen 3
  have g4 := hi3.frozen 4
  unfold mcells at hU
  unfold put5 at hU hUs hUb
  have HN1 := HAB
  have HL3 := Lib.hid hl3
  clear hB3 hb3 hf3 hs3 hl3 HFA HAB HBA HB0 hi3
  generalize fewM m = m1 at *
  have HU := Lib.hid hU
  have HUS := Lib.hid hUs
  have HUB := Lib.hid hUb
  clear hU hUs hUb
  go_upto_region 2 with fail
  generalize ((((w3.setCell ⟨w.heap.size, 0, none⟩ (.int .i64 m1.time)).setCell ⟨w.heap.size, 1, none⟩ (.string m1.tag)).setCell ⟨w.heap.size, 2, none⟩ (.string m1.parent)).setCell ⟨w.heap.size, 3, none⟩ (.int .i64 m1.size)).setCell ⟨w.heap.size, 4, none⟩ (.slice A3 m1.chunks.length c3) = w4 at *
  clear p0 p1 p2 p3 p4 g0 g1 g2 g3 g4
  have HK4 := HU
  have HS4 := HUS
  have HB4 := HUB
  clear HU HUS HUB
  have i0 : (w4).cell? ⟨w.heap.size, 0, none⟩ = some (.int .i64 m1.time) := HK4.out.cell 0
  have i1 : (w4).cell? ⟨w.heap.size, 1, none⟩ = some (.string m1.tag) := HK4.out.cell 1
  have i2 : (w4).cell? ⟨w.heap.size, 2, none⟩ = some (.string m1.parent) := HK4.out.cell 2
  have i3 : (w4).cell? ⟨w.heap.size, 3, none⟩ = some (.int .i64 m1.size) := HK4.out.cell 3
  have i4 : (w4).cell? ⟨w.heap.size, 4, none⟩ = some (.slice A3 m1.chunks.length c3) := HK4.out.cell 4
  have CE := Lib.hid (mencode_any m1 A3 c3 w4 (HE.out _ HB4.out) HS4.out HN1.out HL3.out)
  unfold manV encR at CE
  have CG := Lib.hid fun W h1 h2 => mgood_any m1 A3 c3 W h1 h2 HN1.out
  have CC := Lib.hid fun W h1 h2 => mcheck_any m1 A3 c3 W h1 h2 HN1.out
  have CT := Lib.hid fun W h1 h2 => rtext_any m1 A3 c3 W h1 h2
  unfold manV at CG CC CT
  have CD := Lib.hid fun W h1 h2 => mdecode_any (bs (manL m1)) W h1 h2
  cases hg : goodM m1 with
  | false =>
    rw [hg] at CE CG CC
    unfold errI at CC
    simp only [Bool.false_eq_true, if_false] at CE CC
    clear hg
    go_wp2_with fail
    refine (CE.out).mono ?_
    rintro e w5 ⟨rfl, hb5⟩
    have HB5 := Lib.hid (HB4.out.trans (hb5.mono HB4.out.size))
    have HK5 := Lib.hid (HK4.out.below hb5 HK4.out.lt)
    have HS5 := Lib.hid (HS4.out.below hb5)
    clear HB4 HK4 HS4 hb5 i0 i1 i2 i3 i4
    have i0 : (w5).cell? ⟨w.heap.size, 0, none⟩ = some (.int .i64 m1.time) := HK5.out.cell 0
    have i1 : (w5).cell? ⟨w.heap.size, 1, none⟩ = some (.string m1.tag) := HK5.out.cell 1
    have i2 : (w5).cell? ⟨w.heap.size, 2, none⟩ = some (.string m1.parent) := HK5.out.cell 2
    have i3 : (w5).cell? ⟨w.heap.size, 3, none⟩ = some (.int .i64 m1.size) := HK5.out.cell 3
    have i4 : (w5).cell? ⟨w.heap.size, 4, none⟩ = some (.slice A3 m1.chunks.length c3) := HK5.out.cell 4
    go_wp2_with fail
    refine (CG.out w5 (HE.out _ HB5.out) HS5.out).mono ?_
    rintro e w6 ⟨rfl, hb6⟩
    have HB6 := Lib.hid (HB5.out.trans (hb6.mono HB5.out.size))
    have HK6 := Lib.hid (HK5.out.below hb6 HK5.out.lt)
    have HS6 := Lib.hid (HS5.out.below hb6)
    clear HB5 HK5 HS5 hb6 i0 i1 i2 i3 i4
    go_wp2_with fail
    refine (HAW.out w6 (HE.out _ HB6.out)).mono ?_
    rintro e w7 ⟨rfl, hb7⟩
    have HB7 := Lib.hid (HB6.out.trans (hb7.mono HB6.out.size))
    have HK7 := Lib.hid (HK6.out.below hb7 HK6.out.lt)
    have HS7 := Lib.hid (HS6.out.below hb7)
    clear HB6 HK6 HS6 hb7
    have i0 : (w7).cell? ⟨w.heap.size, 0, none⟩ = some (.int .i64 m1.time) := HK7.out.cell 0
    have i1 : (w7).cell? ⟨w.heap.size, 1, none⟩ = some (.string m1.tag) := HK7.out.cell 1
    have i2 : (w7).cell? ⟨w.heap.size, 2, none⟩ = some (.string m1.parent) := HK7.out.cell 2
    have i3 : (w7).cell? ⟨w.heap.size, 3, none⟩ = some (.int .i64 m1.size) := HK7.out.cell 3
    have i4 : (w7).cell? ⟨w.heap.size, 4, none⟩ = some (.slice A3 m1.chunks.length c3) := HK7.out.cell 4
    go_wp2_with fail
    refine (CC.out w7 (HE.out _ HB7.out) HS7.out).mono ?_
    rintro e w8 ⟨rfl, hb8⟩
    have HB8 := Lib.hid (HB7.out.trans (hb8.mono HB7.out.size))
    have HK8 := Lib.hid (HK7.out.below hb8 HK7.out.lt)
    have HS8 := Lib.hid (HS7.out.below hb8)
    clear HB7 HK7 HS7 hb8 i0 i1 i2 i3 i4
    have HBE := HB8
    clear HB8 HK8 HS8 CD CT CE CG CC
    go_upto_region 10 with fail
    go_wp2_with fail
    refine (HFW.out w8).mono ?_
    rintro e wf ⟨rfl, rfl⟩
    have hz2 : (s.extract 0 2000).size ≤ 1099511627776 := by simp only [ByteArray.size_extract]; omega
    generalize s.extract 0 2000 = s2 at *
    have CDX := Lib.hid fun W h1 => mdecode_any s2 W h1 hz2
    have CRX := Lib.hid fun W h1 => rread_any s2 W h1 hz2
    have HDC := Lib.hid (dec_two s2)
    unfold DecPost manV at CDX CRX
    generalize (decS s2).1 = X at *
    generalize (decS s2).2 = k at *
    clear hz2
    go_wp2_with fail
    refine (CDX.out w8 (HE.out _ HBE.out)).mono ?_
    rintro e wd ⟨Ad, cd, rfl, hsd, hbd, hld, hmd⟩
    have hkd := Blk.new wd 24 #[.int .i64 X.time, .string X.tag, .string X.parent, .int .i64 X.size, .slice Ad X.chunks.length cd]
    have hbn : Below wd.heap.size wd (wd.alloc (.cells #[.int .i64 X.time, .string X.tag, .string X.parent, .int .i64 X.size, .slice Ad X.chunks.length cd] 24)) := (Below.refl _ wd).alloc (Nat.le_refl _) _
    have HSD := Lib.hid (hsd.below hbn)
    have HBD := Lib.hid ((HBE.out.trans (hbd.mono HBE.out.size)).trans (hbn.mono (HBE.out.trans (hbd.mono HBE.out.size)).size))
    have HKD := Lib.hid hkd
    have HMD := Lib.hid hmd
    clear hsd hbd hld hmd hkd hbn HBE
    go_upto_region 12 with fail
    generalize wd.alloc (.cells #[.int .i64 X.time, .string X.tag, .string X.parent, .int .i64 X.size, .slice Ad X.chunks.length cd] 24) = we at *
    go_wp2_with fail
    refine (CRX.out we (HE.out _ HBD.out)).mono ?_
    rintro e wg ⟨Ag, cg, rfl, hsg, hbg, hlg, hmg⟩
    have hkg := Blk.new wg 30 #[.int .i64 X.time, .string X.tag, .string X.parent, .int .i64 X.size, .slice Ag X.chunks.length cg]
    have hbn : Below wg.heap.size wg (wg.alloc (.cells #[.int .i64 X.time, .string X.tag, .string X.parent, .int .i64 X.size, .slice Ag X.chunks.length cg] 30)) := (Below.refl _ wg).alloc (Nat.le_refl _) _
    have HSG := Lib.hid (hsg.below hbn)
    have HSE := Lib.hid ((HSD.out.below hbg).below hbn)
    have HKE := Lib.hid ((HKD.out.below hbg HKD.out.lt).below hbn (HKD.out.below hbg HKD.out.lt).lt)
    have HBG := Lib.hid ((HBD.out.trans (hbg.mono HBD.out.size)).trans (hbn.mono (HBD.out.trans (hbg.mono HBD.out.size)).size))
    have HKG := Lib.hid hkg
    clear hsg hbg hlg hmg hkg hbn HBD HSD HKD
    go_upto_region 13 with fail
    generalize wg.alloc (.cells #[.int .i64 X.time, .string X.tag, .string X.parent, .int .i64 X.size, .slice Ag X.chunks.length cg] 30) = wh at *
    have hsm : sameM X X = true := (sameM_iff _ _).2 rfl
    have CS := msame_any X X Ad Ag cd cg wh HSE.out HSG.out (by have := HMD.out; omega)
    rw [hsm] at CS
    unfold manV at CS
    have CS := Lib.hid CS
    clear hsm
    have i0 : (wh).cell? ⟨wd.heap.size, 0, none⟩ = some (.int .i64 X.time) := HKE.out.cell 0
    have i1 : (wh).cell? ⟨wd.heap.size, 1, none⟩ = some (.string X.tag) := HKE.out.cell 1
    have i2 : (wh).cell? ⟨wd.heap.size, 2, none⟩ = some (.string X.parent) := HKE.out.cell 2
    have i3 : (wh).cell? ⟨wd.heap.size, 3, none⟩ = some (.int .i64 X.size) := HKE.out.cell 3
    have i4 : (wh).cell? ⟨wd.heap.size, 4, none⟩ = some (.slice Ad X.chunks.length cd) := HKE.out.cell 4
    have j0 : (wh).cell? ⟨wg.heap.size, 0, none⟩ = some (.int .i64 X.time) := HKG.out.cell 0
    have j1 : (wh).cell? ⟨wg.heap.size, 1, none⟩ = some (.string X.tag) := HKG.out.cell 1
    have j2 : (wh).cell? ⟨wg.heap.size, 2, none⟩ = some (.string X.parent) := HKG.out.cell 2
    have j3 : (wh).cell? ⟨wg.heap.size, 3, none⟩ = some (.int .i64 X.size) := HKG.out.cell 3
    have j4 : (wh).cell? ⟨wg.heap.size, 4, none⟩ = some (.slice Ag X.chunks.length cg) := HKG.out.cell 4
    rcases HDC.out with ⟨hk, hgX, hX⟩ | hk
    · obtain rfl : k = 0 := hk
      have CT := Lib.hid fun W h1 => rtext_any X Ag cg W h1 hgX
      unfold manV at CT
      rw [hX] at CT
      clear hX hgX HDC
      go_wp2_with fail
      refine CS.out.mono ?_
      rintro e wi ⟨rfl, hbi⟩
      have HBI := Lib.hid (HBG.out.trans (hbi.mono HBG.out.size))
      have HKI := Lib.hid (HKG.out.below hbi HKG.out.lt)
      have HSI := Lib.hid (HSG.out.below hbi)
      clear hbi i0 i1 i2 i3 i4 j0 j1 j2 j3 j4
      have j0 : (wi).cell? ⟨wg.heap.size, 0, none⟩ = some (.int .i64 X.time) := HKI.out.cell 0
      have j1 : (wi).cell? ⟨wg.heap.size, 1, none⟩ = some (.string X.tag) := HKI.out.cell 1
      have j2 : (wi).cell? ⟨wg.heap.size, 2, none⟩ = some (.string X.parent) := HKI.out.cell 2
      have j3 : (wi).cell? ⟨wg.heap.size, 3, none⟩ = some (.int .i64 X.size) := HKI.out.cell 3
      have j4 : (wi).cell? ⟨wg.heap.size, 4, none⟩ = some (.slice Ag X.chunks.length cg) := HKI.out.cell 4
      go_wp2_with fail
      refine (CT.out wi HSI.out).mono ?_
      rintro e wj ⟨rfl, hbj⟩
      go_wp2
      go_ret
      exact ⟨rfl, HBI.out.trans (hbj.mono HBI.out.size)⟩
    · have hk2 : (k != 0) = true := by simpa using hk
      clear hk HDC
      go_wp2_with fail
      refine CS.out.mono ?_
      rintro e wi ⟨rfl, hbi⟩
      go_wp2
      go_ret
      exact ⟨rfl, HBG.out.trans (hbi.mono HBG.out.size)⟩
  | true =>
    rw [hg] at CE CG CC
    unfold errI at CC
    have HG := Lib.hid hg
    simp only [if_true] at CE CC
    clear hg
    go_wp2_with fail
    refine (CE.out).mono ?_
    rintro e w5 ⟨rfl, hb5⟩
    have HB5 := Lib.hid (HB4.out.trans (hb5.mono HB4.out.size))
    have HK5 := Lib.hid (HK4.out.below hb5 HK4.out.lt)
    have HS5 := Lib.hid (HS4.out.below hb5)
    clear HB4 HK4 HS4 hb5 i0 i1 i2 i3 i4
    have i0 : (w5).cell? ⟨w.heap.size, 0, none⟩ = some (.int .i64 m1.time) := HK5.out.cell 0
    have i1 : (w5).cell? ⟨w.heap.size, 1, none⟩ = some (.string m1.tag) := HK5.out.cell 1
    have i2 : (w5).cell? ⟨w.heap.size, 2, none⟩ = some (.string m1.parent) := HK5.out.cell 2
    have i3 : (w5).cell? ⟨w.heap.size, 3, none⟩ = some (.int .i64 m1.size) := HK5.out.cell 3
    have i4 : (w5).cell? ⟨w.heap.size, 4, none⟩ = some (.slice A3 m1.chunks.length c3) := HK5.out.cell 4
    go_wp2_with fail
    refine (CG.out w5 (HE.out _ HB5.out) HS5.out).mono ?_
    rintro e w6 ⟨rfl, hb6⟩
    have HB6 := Lib.hid (HB5.out.trans (hb6.mono HB5.out.size))
    have HK6 := Lib.hid (HK5.out.below hb6 HK5.out.lt)
    have HS6 := Lib.hid (HS5.out.below hb6)
    clear HB5 HK5 HS5 hb6 i0 i1 i2 i3 i4
    go_wp2_with fail
    refine (HAW.out w6 (HE.out _ HB6.out)).mono ?_
    rintro e w7 ⟨rfl, hb7⟩
    have HB7 := Lib.hid (HB6.out.trans (hb7.mono HB6.out.size))
    have HK7 := Lib.hid (HK6.out.below hb7 HK6.out.lt)
    have HS7 := Lib.hid (HS6.out.below hb7)
    clear HB6 HK6 HS6 hb7
    have i0 : (w7).cell? ⟨w.heap.size, 0, none⟩ = some (.int .i64 m1.time) := HK7.out.cell 0
    have i1 : (w7).cell? ⟨w.heap.size, 1, none⟩ = some (.string m1.tag) := HK7.out.cell 1
    have i2 : (w7).cell? ⟨w.heap.size, 2, none⟩ = some (.string m1.parent) := HK7.out.cell 2
    have i3 : (w7).cell? ⟨w.heap.size, 3, none⟩ = some (.int .i64 m1.size) := HK7.out.cell 3
    have i4 : (w7).cell? ⟨w.heap.size, 4, none⟩ = some (.slice A3 m1.chunks.length c3) := HK7.out.cell 4
    go_wp2_with fail
    refine (CC.out w7 (HE.out _ HB7.out) HS7.out).mono ?_
    rintro e w8 ⟨rfl, hb8⟩
    have HB8 := Lib.hid (HB7.out.trans (hb8.mono HB7.out.size))
    have HK8 := Lib.hid (HK7.out.below hb8 HK7.out.lt)
    have HS8 := Lib.hid (HS7.out.below hb8)
    clear HB7 HK7 HS7 hb8 i0 i1 i2 i3 i4
    have hz8 : (bs (manL m1)).size ≤ 1099511627776 := man_size HG.out
    go_wp2_with fail
    refine (CD.out w8 (HE.out _ HB8.out) hz8).mono ?_
    rintro e w9 ⟨A9, c9, he9, hs9, hb9, hl9, hm9⟩
    rw [decS_text m1 HG.out] at he9 hs9 hl9 hm9
    unfold manV at he9
    simp only at he9 hs9 hl9 hm9
    subst he9
    have HB9 := Lib.hid (HB8.out.trans (hb9.mono HB8.out.size))
    have HK9 := Lib.hid (HK8.out.below hb9 HK8.out.lt)
    have HS9 := Lib.hid (HS8.out.below hb9)
    have HT9 := Lib.hid hs9
    clear hb9 hs9 hl9 hm9 HB8 HK8 HS8 hz8
    go_upto_region 8 with fail
    have hk := Blk.new w9 24 #[.int .i64 m1.time, .string m1.tag, .string m1.parent, .int .i64 m1.size, .slice A9 m1.chunks.length c9]
    have hbn : Below w9.heap.size w9 (w9.alloc (.cells #[.int .i64 m1.time, .string m1.tag, .string m1.parent, .int .i64 m1.size, .slice A9 m1.chunks.length c9] 24)) := (Below.refl _ w9).alloc (Nat.le_refl _) _
    have HK10 := Lib.hid (HK9.out.below hbn HK9.out.lt)
    have HS10 := Lib.hid (HS9.out.below hbn)
    have HT10 := Lib.hid (HT9.out.below hbn)
    have HB10 := Lib.hid (HB9.out.trans (hbn.mono HB9.out.size))
    have HN10 := Lib.hid hk
    clear hk hbn HK9 HS9 HT9 HB9
    generalize w9.alloc (.cells #[.int .i64 m1.time, .string m1.tag, .string m1.parent, .int .i64 m1.size, .slice A9 m1.chunks.length c9] 24) = w10 at *
    have i0 : (w10).cell? ⟨w.heap.size, 0, none⟩ = some (.int .i64 m1.time) := HK10.out.cell 0
    have i1 : (w10).cell? ⟨w.heap.size, 1, none⟩ = some (.string m1.tag) := HK10.out.cell 1
    have i2 : (w10).cell? ⟨w.heap.size, 2, none⟩ = some (.string m1.parent) := HK10.out.cell 2
    have i3 : (w10).cell? ⟨w.heap.size, 3, none⟩ = some (.int .i64 m1.size) := HK10.out.cell 3
    have i4 : (w10).cell? ⟨w.heap.size, 4, none⟩ = some (.slice A3 m1.chunks.length c3) := HK10.out.cell 4
    go_wp2_with fail
    refine (CT.out w10 HS10.out HG.out).mono ?_
    rintro e w11 ⟨rfl, hb11⟩
    have HB11 := Lib.hid (HB10.out.trans (hb11.mono HB10.out.size))
    have HK11 := Lib.hid (HK10.out.below hb11 HK10.out.lt)
    have HN11 := Lib.hid (HN10.out.below hb11 HN10.out.lt)
    have HS11 := Lib.hid (HS10.out.below hb11)
    have HT11 := Lib.hid (HT10.out.below hb11)
    clear hb11 HB10 HK10 HN10 HS10 HT10 i0 i1 i2 i3 i4
    have i0 : (w11).cell? ⟨w.heap.size, 0, none⟩ = some (.int .i64 m1.time) := HK11.out.cell 0
    have i1 : (w11).cell? ⟨w.heap.size, 1, none⟩ = some (.string m1.tag) := HK11.out.cell 1
    have i2 : (w11).cell? ⟨w.heap.size, 2, none⟩ = some (.string m1.parent) := HK11.out.cell 2
    have i3 : (w11).cell? ⟨w.heap.size, 3, none⟩ = some (.int .i64 m1.size) := HK11.out.cell 3
    have i4 : (w11).cell? ⟨w.heap.size, 4, none⟩ = some (.slice A3 m1.chunks.length c3) := HK11.out.cell 4
    have j0 : (w11).cell? ⟨w9.heap.size, 0, none⟩ = some (.int .i64 m1.time) := HN11.out.cell 0
    have j1 : (w11).cell? ⟨w9.heap.size, 1, none⟩ = some (.string m1.tag) := HN11.out.cell 1
    have j2 : (w11).cell? ⟨w9.heap.size, 2, none⟩ = some (.string m1.parent) := HN11.out.cell 2
    have j3 : (w11).cell? ⟨w9.heap.size, 3, none⟩ = some (.int .i64 m1.size) := HN11.out.cell 3
    have j4 : (w11).cell? ⟨w9.heap.size, 4, none⟩ = some (.slice A9 m1.chunks.length c9) := HN11.out.cell 4
    have hsm : sameM m1 m1 = true := (sameM_iff _ _).2 rfl
    have CS := msame_any m1 m1 A9 A3 c9 c3 w11 HT11.out HS11.out (by omega)
    rw [hsm] at CS
    unfold manV at CS
    have CS := Lib.hid CS
    clear hsm
    go_wp2_with fail
    refine CS.out.mono ?_
    rintro e w12 ⟨rfl, hb12⟩
    have HBE := Lib.hid (HB11.out.trans (hb12.mono HB11.out.size))
    clear hb12 HB11 HK11 HN11 HS11 HT11 CS i0 i1 i2 i3 i4 j0 j1 j2 j3 j4 CD CT CE CG CC HG
    go_upto_region 10 with fail
    go_wp2_with fail
    refine (HFW.out w12).mono ?_
    rintro e wf ⟨rfl, rfl⟩
    have hz2 : (s.extract 0 2000).size ≤ 1099511627776 := by simp only [ByteArray.size_extract]; omega
    generalize s.extract 0 2000 = s2 at *
    have CDX := Lib.hid fun W h1 => mdecode_any s2 W h1 hz2
    have CRX := Lib.hid fun W h1 => rread_any s2 W h1 hz2
    have HDC := Lib.hid (dec_two s2)
    unfold DecPost manV at CDX CRX
    generalize (decS s2).1 = X at *
    generalize (decS s2).2 = k at *
    clear hz2
    go_wp2_with fail
    refine (CDX.out w12 (HE.out _ HBE.out)).mono ?_
    rintro e wd ⟨Ad, cd, rfl, hsd, hbd, hld, hmd⟩
    have hkd := Blk.new wd 24 #[.int .i64 X.time, .string X.tag, .string X.parent, .int .i64 X.size, .slice Ad X.chunks.length cd]
    have hbn : Below wd.heap.size wd (wd.alloc (.cells #[.int .i64 X.time, .string X.tag, .string X.parent, .int .i64 X.size, .slice Ad X.chunks.length cd] 24)) := (Below.refl _ wd).alloc (Nat.le_refl _) _
    have HSD := Lib.hid (hsd.below hbn)
    have HBD := Lib.hid ((HBE.out.trans (hbd.mono HBE.out.size)).trans (hbn.mono (HBE.out.trans (hbd.mono HBE.out.size)).size))
    have HKD := Lib.hid hkd
    have HMD := Lib.hid hmd
    clear hsd hbd hld hmd hkd hbn HBE
    go_upto_region 12 with fail
    generalize wd.alloc (.cells #[.int .i64 X.time, .string X.tag, .string X.parent, .int .i64 X.size, .slice Ad X.chunks.length cd] 24) = we at *
    go_wp2_with fail
    refine (CRX.out we (HE.out _ HBD.out)).mono ?_
    rintro e wg ⟨Ag, cg, rfl, hsg, hbg, hlg, hmg⟩
    have hkg := Blk.new wg 30 #[.int .i64 X.time, .string X.tag, .string X.parent, .int .i64 X.size, .slice Ag X.chunks.length cg]
    have hbn : Below wg.heap.size wg (wg.alloc (.cells #[.int .i64 X.time, .string X.tag, .string X.parent, .int .i64 X.size, .slice Ag X.chunks.length cg] 30)) := (Below.refl _ wg).alloc (Nat.le_refl _) _
    have HSG := Lib.hid (hsg.below hbn)
    have HSE := Lib.hid ((HSD.out.below hbg).below hbn)
    have HKE := Lib.hid ((HKD.out.below hbg HKD.out.lt).below hbn (HKD.out.below hbg HKD.out.lt).lt)
    have HBG := Lib.hid ((HBD.out.trans (hbg.mono HBD.out.size)).trans (hbn.mono (HBD.out.trans (hbg.mono HBD.out.size)).size))
    have HKG := Lib.hid hkg
    clear hsg hbg hlg hmg hkg hbn HBD HSD HKD
    go_upto_region 13 with fail
    generalize wg.alloc (.cells #[.int .i64 X.time, .string X.tag, .string X.parent, .int .i64 X.size, .slice Ag X.chunks.length cg] 30) = wh at *
    have hsm : sameM X X = true := (sameM_iff _ _).2 rfl
    have CS := msame_any X X Ad Ag cd cg wh HSE.out HSG.out (by have := HMD.out; omega)
    rw [hsm] at CS
    unfold manV at CS
    have CS := Lib.hid CS
    clear hsm
    have i0 : (wh).cell? ⟨wd.heap.size, 0, none⟩ = some (.int .i64 X.time) := HKE.out.cell 0
    have i1 : (wh).cell? ⟨wd.heap.size, 1, none⟩ = some (.string X.tag) := HKE.out.cell 1
    have i2 : (wh).cell? ⟨wd.heap.size, 2, none⟩ = some (.string X.parent) := HKE.out.cell 2
    have i3 : (wh).cell? ⟨wd.heap.size, 3, none⟩ = some (.int .i64 X.size) := HKE.out.cell 3
    have i4 : (wh).cell? ⟨wd.heap.size, 4, none⟩ = some (.slice Ad X.chunks.length cd) := HKE.out.cell 4
    have j0 : (wh).cell? ⟨wg.heap.size, 0, none⟩ = some (.int .i64 X.time) := HKG.out.cell 0
    have j1 : (wh).cell? ⟨wg.heap.size, 1, none⟩ = some (.string X.tag) := HKG.out.cell 1
    have j2 : (wh).cell? ⟨wg.heap.size, 2, none⟩ = some (.string X.parent) := HKG.out.cell 2
    have j3 : (wh).cell? ⟨wg.heap.size, 3, none⟩ = some (.int .i64 X.size) := HKG.out.cell 3
    have j4 : (wh).cell? ⟨wg.heap.size, 4, none⟩ = some (.slice Ag X.chunks.length cg) := HKG.out.cell 4
    rcases HDC.out with ⟨hk, hgX, hX⟩ | hk
    · obtain rfl : k = 0 := hk
      have CT := Lib.hid fun W h1 => rtext_any X Ag cg W h1 hgX
      unfold manV at CT
      rw [hX] at CT
      clear hX hgX HDC
      go_wp2_with fail
      refine CS.out.mono ?_
      rintro e wi ⟨rfl, hbi⟩
      have HBI := Lib.hid (HBG.out.trans (hbi.mono HBG.out.size))
      have HKI := Lib.hid (HKG.out.below hbi HKG.out.lt)
      have HSI := Lib.hid (HSG.out.below hbi)
      clear hbi i0 i1 i2 i3 i4 j0 j1 j2 j3 j4
      have j0 : (wi).cell? ⟨wg.heap.size, 0, none⟩ = some (.int .i64 X.time) := HKI.out.cell 0
      have j1 : (wi).cell? ⟨wg.heap.size, 1, none⟩ = some (.string X.tag) := HKI.out.cell 1
      have j2 : (wi).cell? ⟨wg.heap.size, 2, none⟩ = some (.string X.parent) := HKI.out.cell 2
      have j3 : (wi).cell? ⟨wg.heap.size, 3, none⟩ = some (.int .i64 X.size) := HKI.out.cell 3
      have j4 : (wi).cell? ⟨wg.heap.size, 4, none⟩ = some (.slice Ag X.chunks.length cg) := HKI.out.cell 4
      go_wp2_with fail
      refine (CT.out wi HSI.out).mono ?_
      rintro e wj ⟨rfl, hbj⟩
      go_wp2
      go_ret
      exact ⟨rfl, HBI.out.trans (hbj.mono HBI.out.size)⟩
    · have hk2 : (k != 0) = true := by simpa using hk
      clear hk HDC
      go_wp2_with fail
      refine CS.out.mono ?_
      rintro e wi ⟨rfl, hbi⟩
      go_wp2
      go_ret
      exact ⟨rfl, HBG.out.trans (hbi.mono HBG.out.size)⟩
/-- the walk of ManifestTexts, as its last text takes it -/
theorem texts_card (a : Man) (v : Value) (s : ByteArray) (w : World) (he : Env w) (ha : ManP w v a) (hs : s.data.toList.length ≤ reachBytes) :
    Calls Tryd.prog 3 #[v, .string s] w fun e w' => e = .returned (.bool true) ∧ Below w.heap.size w w' := by
  obtain ⟨A, c, rfl, ha⟩ := ha
  exact texts_all a s A c w he ha (by have := reach47 hs; rw [ba_len] at this; exact this)
end Go.Proofs.YtbjompcaekbjoaaDoor
