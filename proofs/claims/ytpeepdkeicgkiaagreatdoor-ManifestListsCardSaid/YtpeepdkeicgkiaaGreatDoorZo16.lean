/- The document's sum of a text. -/
import Derived.Test.YtpeepdkeicgkiaaGreatDoorZo14
import Derived.Test.YtpeepdkeicgkiaaGreatDoorZo12
import Derived.Test.YtpeepdkeicgkiaaGreatDoorZo15
import Derived.Test.YtpeepdkeicgkiaaGreatDoorZo13
namespace Go.Proofs.YtpeepdkeicgkiaaGreatDoor
set_option linter.unusedVariables false
set_option linter.unusedSimpArgs false
set_option linter.unusedSectionVars false
open Go.RowKit

theorem blk_num {W : World} {g : Nat} {l : List W32} (h : Blk W g 86 (numC l)) : NumAt W g l := ⟨h.lt, fun j x hx => by
  rw [h.cell]
  simp [numC, hx]⟩
theorem own_bit {w : World} {B g n cap : Nat} {l : List Bool} (h : w.ownsRow B 4 1 (.slice (some ⟨g, 0, none⟩) n cap) n (boolV l)) : BitAt w g l := ⟨(h.lt g rfl).2, fun j b hb => by
  have hj := (List.getElem?_eq_some_iff.1 hb).1
  have hl := h.1
  simp only [boolV, List.length_map] at hl
  rw [h.cellAt j (by omega)]
  simp [boolV, hb]⟩
theorem own_cap {w : World} {B g n cap size : Nat} {e : TypeId} {xs : List Value} (h : w.ownsRow B e size (.slice (some ⟨g, 0, none⟩) n cap) n xs) : n ≤ cap := by
  rcases h.2 with ⟨h', _⟩ | ⟨g', cap', cur, h', hb, hg, hnc, _⟩
  · simp at h'
  · simp only [Value.slice.injEq] at h'
    obtain ⟨_, _, rfl⟩ := h'
    exact hnc
theorem ofNat_W (x : W32) : BitVec.ofNat 32 x.toNat = x := by simp
/-- the first k words added up -/
def mixL (v r : V8) (k : Nat) : List W32 := [if 0 < k then v.a + r.a else v.a, if 1 < k then v.b + r.b else v.b, if 2 < k then v.c + r.c else v.c, if 3 < k then v.d + r.d else v.d, if 4 < k then v.e + r.e else v.e, if 5 < k then v.f + r.f else v.f, if 6 < k then v.g + r.g else v.g, if 7 < k then v.h + r.h else v.h]
theorem mixL_set (v r : V8) (k : Nat) (h : k < 8) : (mixL v r k).set k (v.toL.getD k 0 + r.toL.getD k 0) = mixL v r (k + 1) ∧ (mixL v r k)[k]? = some (v.toL.getD k 0) ∧ r.toL[k]? = some (r.toL.getD k 0) := by
  obtain rfl | rfl | rfl | rfl | rfl | rfl | rfl | rfl : k = 0 ∨ k = 1 ∨ k = 2 ∨ k = 3 ∨ k = 4 ∨ k = 5 ∨ k = 6 ∨ k = 7 := by omega
  all_goals exact ⟨rfl, rfl, rfl⟩
theorem ws_cells {W : World} {gv g : Nat} {ws : List W32} (h : WsAt W gv ws) (hne : gv ≠ g) (o : Nat) (vs : List Value) : WsAt (W.setCells g o vs) gv ws :=
  ⟨by rw [cells_size]; exact h.1, fun j x hx i v hv => (World.cell?_of_block (cells_other hne vs o W)).trans (h.2 j x hx i v hv)⟩
/-- the four bytes of a word, as they are added up -/
def bytesQ (x : W32) : List UInt8 := [UInt8.ofNat (topN x 0 8), UInt8.ofNat (topN x 8 8), UInt8.ofNat (topN x 16 8), UInt8.ofNat (topN x 24 8)]
theorem bytesQ_snoc (x : W32) (q : Nat) (h : q < 4) : (bytesQ x).take (q + 1) = (bytesQ x).take q ++ [UInt8.ofNat (topN x (8 * q) 8)] := by
  obtain rfl | rfl | rfl | rfl : q = 0 ∨ q = 1 ∨ q = 2 ∨ q = 3 := by omega
  all_goals rfl
theorem top_byte (x : W32) (i : Nat) : (UInt8.ofNat (topN x i 8)).toNat = topN x i 8 := by
  rw [UInt8.toNat_ofNat']
  exact Nat.mod_eq_of_lt (topN_lt x i 8)
theorem dof_W (x : W32) (w : World) : Calls Tryz.prog 81 #[.int .u64 (x.toNat : Int)] w fun e w' => e = .returned (.agg (wl x).toArray) ∧ Below w.heap.size w w' := by
  have h := dof_any x.toNat w (by have := x.isLt; omega)
  rw [ofNat_W] at h
  rw [agg_of]
  exact h
theorem take_snocW {l : List W32} {k : Nat} {x : W32} (h : l[k]? = some x) : l.take (k + 1) = l.take k ++ [x] := by
  rw [List.take_add_one, h]; rfl
set_option maxRecDepth 100000 in
set_option maxHeartbeats 6400000 in
theorem dsum_any (s : ByteArray) (w : World) (hs : s.size ≤ 16777216) :
    Calls Tryz.prog 44 #[.string s] w fun e w' => e = .returned (.string (bs (sumL s.data.toList))) ∧ Below w.heap.size w w' := by
  have HT := Lib.hid (table_any w)
  have HBT := Lib.hid fun W => bits_any s W hs
  have HBL := Lib.hid (bitsD_len s)
  go_enter Tryz.func44, Tryz.ntmps44
  go_wp2_with fail
  refine HT.out.mono ?_
  rintro e w1 ⟨rfl, hw1⟩
  have HW0 := Lib.hid (show Below w.heap.size w w1 ∧ NumAt w1 w.heap.size htab.toL ∧ NumAt w1 (w.heap.size + 1) ktab from by
    subst hw1
    refine ⟨((Below.refl _ w).alloc (Nat.le_refl _) _).alloc (by simp) _, blk_num ((Blk.new _ _ _).alloc _), blk_num ?_⟩
    have h := Blk.new (w.alloc (.cells (numC htab.toL) 86)) 86 (numC ktab)
    rwa [World.size_alloc] at h)
  clear hw1 HT
  have hz1 := HW0.out.1.size
  go_wp2
  go_loopw [5, 30] (fun hv iv wr => ∃ (g c k : Nat), hv = .slice (some ⟨g, 0, none⟩) (k : Nat) c ∧ iv = .int .i64 (k : Nat) ∧ k ≤ 8 ∧ Hid (wr.ownsRow w1.heap.size 135 32 (.slice (some ⟨g, 0, none⟩) k c) k (wls (htab.toL.take k))) ∧ Hid (Below w1.heap.size w1 wr)) (fun _ iv _ => 8 - (intOf iv).toNat)
  case atStart =>
    refine ⟨w1.heap.size, 0, 0, rfl, rfl, Nat.zero_le _, Lib.hid ?_, Lib.hid ((Below.refl _ w1).alloc (Nat.le_refl _) _)⟩
    exact World.ownsRow_lit (e := 135) (size := 32) w1 #[] 0 (Nat.le_refl _) (by decide) rfl
  case round =>
    obtain ⟨g, c, k, rfl, rfl, hk, HO, HB⟩ := hrel
    by_cases hlt : k < 8
    · obtain ⟨x, hx⟩ : ∃ x, htab.toL[k]? = some x := ⟨_, List.getElem?_eq_getElem hlt⟩
      have cx := (HW0.out.2.1.up HB.out).2 k x hx
      have HTK := Lib.hid (take_snocW hx)
      have hx32 := x.isLt
      have HOF := Lib.hid (dof_any x.toNat wr (by omega))
      rw [ofNat_W] at HOF
      have hk8 : (k : Int) < 8 := by omega
      have hzr := HB.out.size
      clear hx
      go_wp2_with fail
      refine HOF.out.mono ?_
      rintro e w2 ⟨rfl, hb2⟩
      have HO2 := Lib.hid (ownsRow_below HO.out hb2)
      have HB2 := Lib.hid (HB.out.trans (hb2.mono hzr))
      have hz2 := HB2.out.size
      clear hb2 HOF HO HB cx
      go_wp2_with (first
        | (refine wpList_build1 rfl _ rfl x rfl ?_)
        | (at_builtin; refine wpList_app1 rfl _ _ 133 rfl w1.heap.size 135 Tryz.underlying133 infoWd (by simp [zC, Value.cells]) (by decide) _ _ _ rfl HO2.out (wordC x) rfl (by simp [wordC]) (wordC_one x) (by omega) (by omega) hz2 ?_; intro g3 c3 w3 ho3 hg3 hb3 hl3))
      have HO3 := Lib.hid (show w3.ownsRow w1.heap.size 135 32 (.slice (some ⟨g3, 0, none⟩) (k + 1) c3) (k + 1) (wls (htab.toL.take (k + 1))) from by rw [HTK.out, wls_snoc]; exact ho3)
      have HB3 := Lib.hid (HB2.out.trans hb3)
      clear ho3 hg3 hb3 hl3 HO2 HB2
      go_wp2
      go_roundw
      case rel => exact ⟨g3, c3, k + 1, rfl, by go_num, by omega, HO3, HB3⟩
      case measure => simp [intOf]; omega
    · obtain rfl : k = 8 := by omega
      rw [show htab.toL.take 8 = htab.toL from rfl] at HO
      rw [show ((8 : Nat) : Int) = 8 from rfl]
      go_wp2_with fail
      refine (HBT.out wr).mono ?_
      rintro e w2 ⟨gb, cb, rfl, hob, hbb⟩
      have HS0 := Lib.hid (show SumI w (w.heap.size + 1) gb g c (bitsD s) htab.toL w2 from by
        have h1 := HB.out.trans (hbb.mono HB.out.size)
        have q1 := HO.out.lt g rfl
        have q2 := hob.lt gb rfl
        have q3 := HW0.out.2.2.1
        refine ⟨HW0.out.1.trans (h1.mono hz1), (HW0.out.2.2.up HB.out).up hbb, own_bit hob, ?_, by omega, by omega⟩
        have := ownsRow_below HO.out hbb
        exact ownsRow_base this hz1)
      have hz2 := HS0.out.bel.size
      obtain ⟨L, hL⟩ : ∃ L, L = s.data.toList ++ padB s.size := ⟨_, rfl⟩
      obtain ⟨nb, hnb⟩ : ∃ nb, L.length = 64 * nb := ⟨L.length / 64, by have := padB_len s.size; rw [hL, List.length_append]; simp; omega⟩
      have hbl : 8 * s.size + 1 + padQ (8 * s.size) + 64 = 512 * nb := by
        have h1 := hob.1
        simp only [boolV, List.length_map] at h1
        have h2 := HBL.out
        have h3 : L.length = s.size + (padB s.size).length := by rw [hL, List.length_append]; simp
        omega
      have hcb : 512 * nb ≤ cb ∧ nb ≤ 400000 := by
        have e2 := own_cap hob
        have : (padB s.size).length ≤ 200 := by unfold padB; simp; omega
        have h3 : L.length = s.size + (padB s.size).length := by rw [hL, List.length_append]; simp
        omega
      have HBI := Lib.hid (show bitsD s = L.flatMap byteB by rw [hL]; exact bitsD_is s)
      have HSUM := Lib.hid (show sumL s.data.toList = (blocksN htab L nb).toL.flatMap bytesW by
        unfold sumL blocksF
        have : s.data.toList ++ padB s.data.toList.length = L := by rw [hL]; simp
        rw [this, hnb, Nat.mul_div_cancel_left _ (by decide : 0 < 64)])
      have HLN := Lib.hid hnb
      rw [HBI.out] at HS0
      rw [hbl]
      clear hob hbb HO HB HW0 HBT HBL HBI hL hnb hbl
      go_wp2
      go_loopw [8] (fun lv wr => ∃ (b o cl : Nat), lv = .slice (some ⟨gb, o, none⟩) (512 * (nb - b) : Nat) cl ∧ b ≤ nb ∧ 512 * (nb - b) ≤ cl ∧ (b < nb → o = 512 * b) ∧ Hid (SumI w (w.heap.size + 1) gb g c (L.flatMap byteB) (blocksN htab L b).toL wr)) (fun lv _ => sliceLen lv)
      case atStart => exact ⟨0, 0, cb, rfl, Nat.zero_le _, hcb.1, fun _ => rfl, HS0⟩
      case round =>
        clear HS0
        obtain ⟨b, o, cl, rfl, hb, hcl, ho, HS⟩ := hrel
        by_cases hbn : b < nb
        · obtain rfl := ho hbn
          obtain ⟨wo, rfl⟩ : ∃ wo : World, wo = wr := ⟨_, rfl⟩
          obtain ⟨bl, hbl⟩ : ∃ bl, bl = (L.drop (64 * b)).take 64 := ⟨_, rfl⟩
          have HBB := Lib.hid fun (i k : Nat) (hi : i < 16) (hk : k < 32) => (show (L.flatMap byteB)[512 * b + (32 * i + k)]? = some ((msgW bl i).getMsbD k) from by rw [hbl]; exact block_bit L b i k hk hi (by rw [HLN.out]; omega))
          have HBF := Lib.hid (show blocksN htab L (b + 1) = blockF (blocksN htab L b) bl from by rw [hbl]; rfl)
          have hpos : decide (0 < 512 * (nb - b)) = true := decide_eq_true (by omega)
          clear hbl
          generalize blocksN htab L b = v at *
          go_wp2
          go_loopw [9, 10] (fun wv iv W => ∃ (g9 c9 k : Nat), wv = .slice (some ⟨g9, 0, none⟩) (k : Nat) c9 ∧ iv = .int .i64 (k : Nat) ∧ k ≤ 16 ∧ Hid (W.ownsRow wo.heap.size 135 32 (.slice (some ⟨g9, 0, none⟩) k c9) k (wls (sched bl k))) ∧ Hid (Below wo.heap.size wo W)) (fun _ iv _ => 16 - (intOf iv).toNat)
          case atStart =>
            refine ⟨wo.heap.size, 0, 0, rfl, rfl, Nat.zero_le _, Lib.hid ?_, Lib.hid ((Below.refl _ wo).alloc (Nat.le_refl _) _)⟩
            exact World.ownsRow_lit (e := 135) (size := 32) wo #[] 0 (Nat.le_refl _) (by decide) rfl
          case round =>
            obtain ⟨g9, c9, k, rfl, rfl, hk, HO, HB⟩ := hrel
            by_cases hk16 : k < 16
            · have HSC := Lib.hid (show sched bl (k + 1) = sched bl k ++ [msgW bl k] by show sched bl k ++ [if k < 16 then _ else _] = _; rw [if_pos hk16])
              obtain ⟨wi, rfl⟩ : ∃ wi : World, wi = wr := ⟨_, rfl⟩
              have hz := zC_lit
              have HZ := Lib.hid (Blk.new wi 135 zC)
              have hkk : (k : Int) < 16 := by omega
              have hzi := HB.out.size
              go_wp2_with (refine wpList_store_row rfl 135 _ _ rfl wi.heap.size zC rfl rfl 135 zC HZ.out (sizeWC _) rfl (bitsC_one _) ?_)
              clear hz
              go_loopw [51] (fun nv W => ∃ n : Nat, nv = .int .i64 (n : Nat) ∧ n ≤ 32 ∧ Hid (Blk W wi.heap.size 135 (bitsC fun i => decide (i < n) && (msgW bl k).getMsbD i)) ∧ Hid (Below wi.heap.size wi W)) (fun nv _ => 32 - (intOf nv).toNat)
              case atStart =>
                have e : (bitsC fun i => decide (i < 0) && (msgW bl k).getMsbD i) = zC := bitsC_ext fun i hi => by rw [decide_eq_false (by omega)]; rfl
                exact ⟨0, rfl, by omega, Lib.hid (by rw [e]; exact HZ.out.row), Lib.hid (below_row ((Below.refl _ wi).alloc (Nat.le_refl _) _) (Nat.le_refl _) _)⟩
              case round =>
                clear HZ
                obtain ⟨n, rfl, hn, HX, HBX⟩ := hrel
                by_cases hn32 : n < 32
                · have hbit := HBB.out k n hk16 hn32
                  have cb1 := ((HS.out.up HB.out).up HBX.out).bit.2 _ _ hbit
                  have cx : wr.cell? ⟨wi.heap.size, n, none⟩ = some (.bool (decide (n < n) && (msgW bl k).getMsbD n)) := by rw [HX.out.cell, bitsC_get _ hn32]
                  have fx := HX.out.frozen n
                  have HN := Lib.hid (show Blk (wr.setCell ⟨wi.heap.size, n, none⟩ (.bool ((msgW bl k).getMsbD n))) wi.heap.size 135 (bitsC fun i => decide (i < n + 1) && (msgW bl k).getMsbD i) from by
                    have h := HX.out.set_ n (.bool ((msgW bl k).getMsbD n))
                    rw [bitsC_set] at h
                    have e : (bitsC fun i => if i = n then (msgW bl k).getMsbD n else decide (i < n) && (msgW bl k).getMsbD i) = bitsC fun i => decide (i < n + 1) && (msgW bl k).getMsbD i := bitsC_ext fun i hi => by
                      by_cases h : i = n
                      · subst h; simp
                      · rw [if_neg h]
                        congr 1
                        rw [Bool.eq_iff_iff, decide_eq_true_iff, decide_eq_true_iff]; omega
                    rw [e] at h
                    exact h)
                  have HBN := Lib.hid (HBX.out.setCell (p := ⟨wi.heap.size, n, none⟩) (Nat.le_refl _) (.bool ((msgW bl k).getMsbD n)))
                  have hnn : (n : Int) < 32 := by omega
                  have hix : (32 * (k : Int) + (n : Int)) < ((512 * (nb - b) : Nat) : Int) := by omega
                  clear hbit HX HBX
                  generalize (msgW bl k).getMsbD n = bt at *
                  generalize (decide (n < n) && bt) = old at *
                  go_wp2
                  go_roundw
                  case rel => exact ⟨n + 1, by go_num, by omega, HN, HBN⟩
                  case measure => simp [intOf]; omega
                · obtain rfl : n = 32 := by omega
                  have e : (bitsC fun i => decide (i < 32) && (msgW bl k).getMsbD i) = wordC (msgW bl k) := bitsC_ext fun i hi => by rw [decide_eq_true hi]; rfl
                  rw [e] at HX
                  clear e
                  rw [show ((32 : Nat) : Int) = 32 from rfl]
                  have HO2 := Lib.hid (ownsRow_below HO.out HBX.out)
                  have HB2 := Lib.hid (HB.out.trans (HBX.out.mono HB.out.size))
                  have hzw := HB2.out.size
                  generalize msgW bl k = mw at *
                  go_wp2_with (first
                    | (refine wpList_load_row rfl 135 _ rfl wi.heap.size rfl 135 _ _ _ HX.out Tryz.underlying135 rfl (sizeWC _) ?_)
                    | (refine wpList_build1 rfl _ rfl mw rfl ?_)
                    | (at_builtin; refine wpList_app1 rfl _ _ 133 rfl wo.heap.size 135 Tryz.underlying133 infoWd (by simp [zC, Value.cells]) (by decide) _ _ _ rfl HO2.out (wordC mw) rfl (by simp [wordC]) (wordC_one mw) (by omega) (by omega) hzw ?_; intro g3 c3 w3 ho3 hg3 hb3 hl3))
                  have HO3 := Lib.hid (show w3.ownsRow wo.heap.size 135 32 (.slice (some ⟨g3, 0, none⟩) (k + 1) c3) (k + 1) (wls (sched bl (k + 1))) from by rw [HSC.out, wls_snoc]; exact ho3)
                  have HB3 := Lib.hid (HB2.out.trans hb3)
                  clear ho3 hg3 hb3 hl3 HO2 HB2 HX HBX HO HB HSC
                  go_wp2
                  go_roundw
                  case rel => exact ⟨g3, c3, k + 1, rfl, by go_num, by omega, HO3, HB3⟩
                  case measure => simp [intOf]; omega
            · obtain rfl : k = 16 := by omega
              rw [show ((16 : Nat) : Int) = 16 from rfl]
              go_upto_region 21 with fail
              go_cut [8] (fun v8 wc => ∃ o' : Nat, v8 = .slice (some ⟨gb, o', none⟩) (512 * (nb - (b + 1)) : Nat) (cl - 512) ∧ (b + 1 < nb → o' = 512 * (b + 1)) ∧ wr = wc)
              case first =>
                have hlen : ¬ (512 * (nb - b)) < 512 := by omega
                have en : 512 * (nb - (b + 1)) = 512 * (nb - b) - 512 := by omega
                have HEN := Lib.hid en
                clear en
                by_cases hc512 : cl = 512
                · subst hc512
                  have HBE := Lib.hid (show ¬ b + 1 < nb by omega)
                  have HE0 := Lib.hid (show 512 * (nb - (b + 1)) = 0 by omega)
                  go_wp2
                  go_meet
                  exact ⟨_, by rw [HE0.out], fun h => absurd h HBE.out, rfl⟩
                · have HOE := Lib.hid (show 512 * b + 512 = 512 * (b + 1) by omega)
                  go_wp2
                  go_meet
                  exact ⟨_, by rw [HEN.out], fun _ => HOE.out, rfl⟩
              case rest =>
                obtain ⟨o', rfl, ho', rfl⟩ := hcut
                go_wp2
                go_loopw [9, 13] (fun wv iv W => ∃ (g9 c9 k : Nat), wv = .slice (some ⟨g9, 0, none⟩) (k + 16 : Nat) c9 ∧ iv = .int .i64 ((k : Int) + 16) ∧ k ≤ 48 ∧ Hid (W.ownsRow wo.heap.size 135 32 (.slice (some ⟨g9, 0, none⟩) (k + 16) c9) (k + 16) (wls (sched bl (k + 16)))) ∧ Hid (Below wo.heap.size wo W)) (fun _ iv _ => 64 - (intOf iv).toNat)
                case atStart => exact ⟨g9, c9, 0, rfl, rfl, Nat.zero_le _, HO, HB⟩
                case round =>
                  clear HO HB
                  obtain ⟨g9, c9, k, rfl, rfl, hk, HO, HB⟩ := hrel
                  by_cases hk48 : k < 48
                  · have HSC := Lib.hid (show sched bl (k + 17) = sched bl (k + 16) ++ [(sched bl (k + 16)).getD k 0 + sA ((sched bl (k + 16)).getD (k + 1) 0) + (sched bl (k + 16)).getD (k + 9) 0 + sB ((sched bl (k + 16)).getD (k + 14) 0)] from by
                      show sched bl (k + 16) ++ [if k + 16 < 16 then _ else _] = _
                      rw [if_neg (by omega)]; rfl)
                    have HWS := Lib.hid (own_ws HO.out)
                    have hsl := sched_len bl (k + 16)
                    obtain ⟨x16, hx16⟩ : ∃ x, (sched bl (k + 16)).getD k 0 = x := ⟨_, rfl⟩
                    have q16 : wr.rangeAt g9 (k * 32) (wl x16) := by
                      rw [Nat.mul_comm]
                      exact HWS.out.2 k x16 (by rw [← hx16, List.getD_eq_getElem?_getD, List.getElem?_eq_getElem (by omega)]; rfl)
                    obtain ⟨x15, hx15⟩ : ∃ x, (sched bl (k + 16)).getD (k + 1) 0 = x := ⟨_, rfl⟩
                    have q15 : wr.rangeAt g9 ((k + 1) * 32) (wl x15) := by
                      rw [Nat.mul_comm]
                      exact HWS.out.2 (k + 1) x15 (by rw [← hx15, List.getD_eq_getElem?_getD, List.getElem?_eq_getElem (by omega)]; rfl)
                    obtain ⟨x7, hx7⟩ : ∃ x, (sched bl (k + 16)).getD (k + 9) 0 = x := ⟨_, rfl⟩
                    have q7 : wr.rangeAt g9 ((k + 9) * 32) (wl x7) := by
                      rw [Nat.mul_comm]
                      exact HWS.out.2 (k + 9) x7 (by rw [← hx7, List.getD_eq_getElem?_getD, List.getElem?_eq_getElem (by omega)]; rfl)
                    obtain ⟨x2, hx2⟩ : ∃ x, (sched bl (k + 16)).getD (k + 14) 0 = x := ⟨_, rfl⟩
                    have q2 : wr.rangeAt g9 ((k + 14) * 32) (wl x2) := by
                      rw [Nat.mul_comm]
                      exact HWS.out.2 (k + 14) x2 (by rw [← hx2, List.getD_eq_getElem?_getD, List.getElem?_eq_getElem (by omega)]; rfl)
                    rw [hx16, hx15, hx7, hx2] at HSC
                    clear hx16 hx15 hx7 hx2 hsl
                    have hur := Tryz.underlying135
                    have hki : (k : Int) + 16 < 64 := by omega
                    go_upto_region 25 with fail
                    have wz0 : IntKind.i64.wrap ((k : Int) + 16 - 16) = (k : Int) := by rw [IntWalk.i64_in _ (by omega)]; omega
                    have wz1 : IntKind.i64.wrap ((k : Int) + 16 - 15) = ((k : Int) + 1) := by rw [IntWalk.i64_in _ (by omega)]; omega
                    have wp1 : 0 ≤ (k : Int) + 1 := by omega
                    have wt1 : ((k : Int) + 1).toNat = k + 1 := by omega
                    have wl1 : (k : Int) + 1 < (k : Int) + 16 := by omega
                    have wz9 : IntKind.i64.wrap ((k : Int) + 16 - 7) = ((k : Int) + 9) := by rw [IntWalk.i64_in _ (by omega)]; omega
                    have wp9 : 0 ≤ (k : Int) + 9 := by omega
                    have wt9 : ((k : Int) + 9).toNat = k + 9 := by omega
                    have wl9 : (k : Int) + 9 < (k : Int) + 16 := by omega
                    have wz14 : IntKind.i64.wrap ((k : Int) + 16 - 2) = ((k : Int) + 14) := by rw [IntWalk.i64_in _ (by omega)]; omega
                    have wp14 : 0 ≤ (k : Int) + 14 := by omega
                    have wt14 : ((k : Int) + 14).toNat = k + 14 := by omega
                    have wl14 : (k : Int) + 14 < (k : Int) + 16 := by omega
                    have wz : IntKind.i64.wrap (k : Int) = (k : Int) := IntWalk.i64_in _ (by omega)
                    have wl0 : (k : Int) < (k : Int) + 16 := by omega
                    refine region_grow2 (by kernel_rfl) [some 74, some 75, some 76, some 77, some 78, some 79, some 80, some 81, some 82, some 83, some 84, some 85, some 86, some 87, some 88, some 89, some 90, some 91, some 92, some 93, some 94, some 95, some 96, some 97, some 98, some 99, some 100, some 9]
                      [eqP (.slice (some ⟨g9, 0, none⟩) (k + 16) c9), eqP (.slice (some ⟨g9, 0, none⟩) (k + 16) c9), eqP (.int .i64 ((k : Int) + 16)), eqP (.int .i64 (k : Int)), eqP (.pointer (some ⟨g9, k * 32, none⟩)), eqP (.agg (wl x16).toArray), eqP (.slice (some ⟨g9, 0, none⟩) (k + 16) c9), eqP (.int .i64 ((k : Int) + 16)), eqP (.int .i64 ((k : Int) + 1)), eqP (.pointer (some ⟨g9, (k + 1) * 32, none⟩)), eqP (.agg (wl x15).toArray), eqP (.agg (wl (sA x15)).toArray), eqP (.slice (some ⟨g9, 0, none⟩) (k + 16) c9), eqP (.int .i64 ((k : Int) + 16)), eqP (.int .i64 ((k : Int) + 9)), eqP (.pointer (some ⟨g9, (k + 9) * 32, none⟩)), eqP (.agg (wl x7).toArray), eqP (.slice (some ⟨g9, 0, none⟩) (k + 16) c9), eqP (.int .i64 ((k : Int) + 16)), eqP (.int .i64 ((k : Int) + 14)), eqP (.pointer (some ⟨g9, (k + 14) * 32, none⟩)), eqP (.agg (wl x2).toArray), eqP (.agg (wl (sB x2)).toArray), blkP wr.heap.size (slcB 4) 135 (wsC [x16, sA x15, x7, sB x2]), eqP (.agg (wl (x16 + sA x15 + x7 + sB x2)).toArray), blkP wr.heap.size (slcB 1) 135 (wsC [(x16 + sA x15 + x7 + sB x2)])] ?_ rfl (by kernel_rfl) rfl (by show ∀ j, j < 26 → j ∈ reachL _ 40 26; decide +kernel) (by show 26 ∈ depsL _ 27; decide +kernel) (fun a0 a' W' => ∃ xs g' c', a' = (putF xs [some 74, some 75, some 76, some 77, some 78, some 79, some 80, some 81, some 82, some 83, some 84, some 85, some 86, some 87, some 88, some 89, some 90, some 91, some 92, some 93, some 94, some 95, some 96, some 97, some 98, some 99, some 100, some 9] 0 a0).put (some 100) (.slice (some ⟨g', 0, none⟩) (k + 16 + 1) c') ∧ Hid (W'.ownsRow wo.heap.size 135 32 (.slice (some ⟨g', 0, none⟩) (k + 16 + 1) c') (k + 16 + 1) (wls (sched bl (k + 17)))) ∧ Hid (Below wo.heap.size wo W')) ?_ ?_ ?_
                    · simp [ApartD]
                    · intro i hi xs W hb hh hd
                      have hbz := hb.size
                      have e27 : xs 27 = (.slice (some ⟨g9, 0, none⟩) (k + 16) c9) := hh 27 (by simp)
                      clear hh
                      match i, hi with
                      | 0, _ =>
                        refine wpOp_step rfl (fun K hK => ?_)
                        simp only [putF, Act.put, List.setIfInBounds_toArray, List.set_cons_succ, List.set_cons_zero, List.getD_cons_succ, List.getD_cons_zero, Nat.reduceAdd]
                        go_simp
                        refine hK _ _ ⟨(.slice (some ⟨g9, 0, none⟩) (k + 16) c9), ?_, Below.refl _ _, rfl⟩
                        simp only [putF, Act.put, List.setIfInBounds_toArray, List.set_cons_succ, List.set_cons_zero, List.getD_cons_succ, List.getD_cons_zero, Nat.reduceAdd, e27]
                      | 1, _ =>
                        refine wpOp_step rfl (fun K hK => ?_)
                        simp only [putF, Act.put, List.setIfInBounds_toArray, List.set_cons_succ, List.set_cons_zero, List.getD_cons_succ, List.getD_cons_zero, Nat.reduceAdd]
                        go_simp
                        refine hK _ _ ⟨(.slice (some ⟨g9, 0, none⟩) (k + 16) c9), ?_, Below.refl _ _, rfl⟩
                        simp only [putF, Act.put, List.setIfInBounds_toArray, List.set_cons_succ, List.set_cons_zero, List.getD_cons_succ, List.getD_cons_zero, Nat.reduceAdd, e27]
                      | 2, _ =>
                        refine wpOp_step rfl (fun K hK => ?_)
                        simp only [putF, Act.put, List.setIfInBounds_toArray, List.set_cons_succ, List.set_cons_zero, List.getD_cons_succ, List.getD_cons_zero, Nat.reduceAdd]
                        go_simp
                        refine hK _ _ ⟨(.int .i64 ((k : Int) + 16)), ?_, Below.refl _ _, rfl⟩
                        simp only [putF, Act.put, List.setIfInBounds_toArray, List.set_cons_succ, List.set_cons_zero, List.getD_cons_succ, List.getD_cons_zero, Nat.reduceAdd, e27]
                      | 3, _ =>
                        have e2 : xs 2 = (.int .i64 ((k : Int) + 16)) := hd 2 (by simp) (by kernel_rfl)
                        refine wpOp_step rfl (fun K hK => ?_)
                        simp only [putF, Act.put, List.setIfInBounds_toArray, List.set_cons_succ, List.set_cons_zero, List.getD_cons_succ, List.getD_cons_zero, Nat.reduceAdd]
                        go_simp
                        refine hK _ _ ⟨(.int .i64 (k : Int)), ?_, Below.refl _ _, rfl⟩
                        simp only [putF, Act.put, List.setIfInBounds_toArray, List.set_cons_succ, List.set_cons_zero, List.getD_cons_succ, List.getD_cons_zero, Nat.reduceAdd, e2, e27]
                      | 4, _ =>
                        have e1 : xs 1 = (.slice (some ⟨g9, 0, none⟩) (k + 16) c9) := hd 1 (by simp) (by kernel_rfl)
                        have e3 : xs 3 = (.int .i64 (k : Int)) := hd 3 (by simp) (by kernel_rfl)
                        refine wpOp_step rfl (fun K hK => ?_)
                        simp only [putF, Act.put, List.setIfInBounds_toArray, List.set_cons_succ, List.set_cons_zero, List.getD_cons_succ, List.getD_cons_zero, Nat.reduceAdd]
                        go_simp
                        refine hK _ _ ⟨(.pointer (some ⟨g9, k * 32, none⟩)), ?_, Below.refl _ _, rfl⟩
                        simp only [putF, Act.put, List.setIfInBounds_toArray, List.set_cons_succ, List.set_cons_zero, List.getD_cons_succ, List.getD_cons_zero, Nat.reduceAdd, e1, e3, e27]
                      | 5, _ =>
                        have e4 : xs 4 = (.pointer (some ⟨g9, k * 32, none⟩)) := hd 4 (by simp) (by kernel_rfl)
                        exact row_step rfl rfl rfl _ _ rfl g9 (k * 32) (by simp only [putF, Act.put, List.setIfInBounds_toArray, List.set_cons_succ, List.set_cons_zero, List.getD_cons_succ, List.getD_cons_zero, Nat.reduceAdd]; exact e4) (wl x16) _ (range_below q16 hb HWS.out.1) hur rfl (wl_size x16) rfl
                      | 6, _ =>
                        refine wpOp_step rfl (fun K hK => ?_)
                        simp only [putF, Act.put, List.setIfInBounds_toArray, List.set_cons_succ, List.set_cons_zero, List.getD_cons_succ, List.getD_cons_zero, Nat.reduceAdd]
                        go_simp
                        refine hK _ _ ⟨(.slice (some ⟨g9, 0, none⟩) (k + 16) c9), ?_, Below.refl _ _, rfl⟩
                        simp only [putF, Act.put, List.setIfInBounds_toArray, List.set_cons_succ, List.set_cons_zero, List.getD_cons_succ, List.getD_cons_zero, Nat.reduceAdd, e27]
                      | 7, _ =>
                        refine wpOp_step rfl (fun K hK => ?_)
                        simp only [putF, Act.put, List.setIfInBounds_toArray, List.set_cons_succ, List.set_cons_zero, List.getD_cons_succ, List.getD_cons_zero, Nat.reduceAdd]
                        go_simp
                        refine hK _ _ ⟨(.int .i64 ((k : Int) + 16)), ?_, Below.refl _ _, rfl⟩
                        simp only [putF, Act.put, List.setIfInBounds_toArray, List.set_cons_succ, List.set_cons_zero, List.getD_cons_succ, List.getD_cons_zero, Nat.reduceAdd, e27]
                      | 8, _ =>
                        have e7 : xs 7 = (.int .i64 ((k : Int) + 16)) := hd 7 (by simp) (by kernel_rfl)
                        refine wpOp_step rfl (fun K hK => ?_)
                        simp only [putF, Act.put, List.setIfInBounds_toArray, List.set_cons_succ, List.set_cons_zero, List.getD_cons_succ, List.getD_cons_zero, Nat.reduceAdd]
                        go_simp
                        refine hK _ _ ⟨(.int .i64 ((k : Int) + 1)), ?_, Below.refl _ _, rfl⟩
                        simp only [putF, Act.put, List.setIfInBounds_toArray, List.set_cons_succ, List.set_cons_zero, List.getD_cons_succ, List.getD_cons_zero, Nat.reduceAdd, e7, e27]
                      | 9, _ =>
                        have e6 : xs 6 = (.slice (some ⟨g9, 0, none⟩) (k + 16) c9) := hd 6 (by simp) (by kernel_rfl)
                        have e8 : xs 8 = (.int .i64 ((k : Int) + 1)) := hd 8 (by simp) (by kernel_rfl)
                        refine wpOp_step rfl (fun K hK => ?_)
                        simp only [putF, Act.put, List.setIfInBounds_toArray, List.set_cons_succ, List.set_cons_zero, List.getD_cons_succ, List.getD_cons_zero, Nat.reduceAdd]
                        go_simp
                        refine hK _ _ ⟨(.pointer (some ⟨g9, (k + 1) * 32, none⟩)), ?_, Below.refl _ _, rfl⟩
                        simp only [putF, Act.put, List.setIfInBounds_toArray, List.set_cons_succ, List.set_cons_zero, List.getD_cons_succ, List.getD_cons_zero, Nat.reduceAdd, e6, e8, e27]
                      | 10, _ =>
                        have e9 : xs 9 = (.pointer (some ⟨g9, (k + 1) * 32, none⟩)) := hd 9 (by simp) (by kernel_rfl)
                        exact row_step rfl rfl rfl _ _ rfl g9 ((k + 1) * 32) (by simp only [putF, Act.put, List.setIfInBounds_toArray, List.set_cons_succ, List.set_cons_zero, List.getD_cons_succ, List.getD_cons_zero, Nat.reduceAdd]; exact e9) (wl x15) _ (range_below q15 hb HWS.out.1) hur rfl (wl_size x15) rfl
                      | 11, _ =>
                        have e10 : xs 10 = (.agg (wl x15).toArray) := hd 10 (by simp) (by kernel_rfl)
                        refine wpOp_step rfl (fun K hK => ?_)
                        simp only [putF, Act.put, List.setIfInBounds_toArray, List.set_cons_succ, List.set_cons_zero, List.getD_cons_succ, List.getD_cons_zero, Nat.reduceAdd]
                        go_simp
                        refine (turns_A' x15 _).mono ?_
                        rintro e w1 ⟨rfl, hb1⟩
                        go_simp
                        refine hK _ _ ⟨(.agg (wl (sA x15)).toArray), ?_, hb1, rfl⟩
                        simp only [putF, Act.put, List.setIfInBounds_toArray, List.set_cons_succ, List.set_cons_zero, List.getD_cons_succ, List.getD_cons_zero, Nat.reduceAdd, e10, e27]
                      | 12, _ =>
                        refine wpOp_step rfl (fun K hK => ?_)
                        simp only [putF, Act.put, List.setIfInBounds_toArray, List.set_cons_succ, List.set_cons_zero, List.getD_cons_succ, List.getD_cons_zero, Nat.reduceAdd]
                        go_simp
                        refine hK _ _ ⟨(.slice (some ⟨g9, 0, none⟩) (k + 16) c9), ?_, Below.refl _ _, rfl⟩
                        simp only [putF, Act.put, List.setIfInBounds_toArray, List.set_cons_succ, List.set_cons_zero, List.getD_cons_succ, List.getD_cons_zero, Nat.reduceAdd, e27]
                      | 13, _ =>
                        refine wpOp_step rfl (fun K hK => ?_)
                        simp only [putF, Act.put, List.setIfInBounds_toArray, List.set_cons_succ, List.set_cons_zero, List.getD_cons_succ, List.getD_cons_zero, Nat.reduceAdd]
                        go_simp
                        refine hK _ _ ⟨(.int .i64 ((k : Int) + 16)), ?_, Below.refl _ _, rfl⟩
                        simp only [putF, Act.put, List.setIfInBounds_toArray, List.set_cons_succ, List.set_cons_zero, List.getD_cons_succ, List.getD_cons_zero, Nat.reduceAdd, e27]
                      | 14, _ =>
                        have e13 : xs 13 = (.int .i64 ((k : Int) + 16)) := hd 13 (by simp) (by kernel_rfl)
                        refine wpOp_step rfl (fun K hK => ?_)
                        simp only [putF, Act.put, List.setIfInBounds_toArray, List.set_cons_succ, List.set_cons_zero, List.getD_cons_succ, List.getD_cons_zero, Nat.reduceAdd]
                        go_simp
                        refine hK _ _ ⟨(.int .i64 ((k : Int) + 9)), ?_, Below.refl _ _, rfl⟩
                        simp only [putF, Act.put, List.setIfInBounds_toArray, List.set_cons_succ, List.set_cons_zero, List.getD_cons_succ, List.getD_cons_zero, Nat.reduceAdd, e13, e27]
                      | 15, _ =>
                        have e12 : xs 12 = (.slice (some ⟨g9, 0, none⟩) (k + 16) c9) := hd 12 (by simp) (by kernel_rfl)
                        have e14 : xs 14 = (.int .i64 ((k : Int) + 9)) := hd 14 (by simp) (by kernel_rfl)
                        refine wpOp_step rfl (fun K hK => ?_)
                        simp only [putF, Act.put, List.setIfInBounds_toArray, List.set_cons_succ, List.set_cons_zero, List.getD_cons_succ, List.getD_cons_zero, Nat.reduceAdd]
                        go_simp
                        refine hK _ _ ⟨(.pointer (some ⟨g9, (k + 9) * 32, none⟩)), ?_, Below.refl _ _, rfl⟩
                        simp only [putF, Act.put, List.setIfInBounds_toArray, List.set_cons_succ, List.set_cons_zero, List.getD_cons_succ, List.getD_cons_zero, Nat.reduceAdd, e12, e14, e27]
                      | 16, _ =>
                        have e15 : xs 15 = (.pointer (some ⟨g9, (k + 9) * 32, none⟩)) := hd 15 (by simp) (by kernel_rfl)
                        exact row_step rfl rfl rfl _ _ rfl g9 ((k + 9) * 32) (by simp only [putF, Act.put, List.setIfInBounds_toArray, List.set_cons_succ, List.set_cons_zero, List.getD_cons_succ, List.getD_cons_zero, Nat.reduceAdd]; exact e15) (wl x7) _ (range_below q7 hb HWS.out.1) hur rfl (wl_size x7) rfl
                      | 17, _ =>
                        refine wpOp_step rfl (fun K hK => ?_)
                        simp only [putF, Act.put, List.setIfInBounds_toArray, List.set_cons_succ, List.set_cons_zero, List.getD_cons_succ, List.getD_cons_zero, Nat.reduceAdd]
                        go_simp
                        refine hK _ _ ⟨(.slice (some ⟨g9, 0, none⟩) (k + 16) c9), ?_, Below.refl _ _, rfl⟩
                        simp only [putF, Act.put, List.setIfInBounds_toArray, List.set_cons_succ, List.set_cons_zero, List.getD_cons_succ, List.getD_cons_zero, Nat.reduceAdd, e27]
                      | 18, _ =>
                        refine wpOp_step rfl (fun K hK => ?_)
                        simp only [putF, Act.put, List.setIfInBounds_toArray, List.set_cons_succ, List.set_cons_zero, List.getD_cons_succ, List.getD_cons_zero, Nat.reduceAdd]
                        go_simp
                        refine hK _ _ ⟨(.int .i64 ((k : Int) + 16)), ?_, Below.refl _ _, rfl⟩
                        simp only [putF, Act.put, List.setIfInBounds_toArray, List.set_cons_succ, List.set_cons_zero, List.getD_cons_succ, List.getD_cons_zero, Nat.reduceAdd, e27]
                      | 19, _ =>
                        have e18 : xs 18 = (.int .i64 ((k : Int) + 16)) := hd 18 (by simp) (by kernel_rfl)
                        refine wpOp_step rfl (fun K hK => ?_)
                        simp only [putF, Act.put, List.setIfInBounds_toArray, List.set_cons_succ, List.set_cons_zero, List.getD_cons_succ, List.getD_cons_zero, Nat.reduceAdd]
                        go_simp
                        refine hK _ _ ⟨(.int .i64 ((k : Int) + 14)), ?_, Below.refl _ _, rfl⟩
                        simp only [putF, Act.put, List.setIfInBounds_toArray, List.set_cons_succ, List.set_cons_zero, List.getD_cons_succ, List.getD_cons_zero, Nat.reduceAdd, e18, e27]
                      | 20, _ =>
                        have e17 : xs 17 = (.slice (some ⟨g9, 0, none⟩) (k + 16) c9) := hd 17 (by simp) (by kernel_rfl)
                        have e19 : xs 19 = (.int .i64 ((k : Int) + 14)) := hd 19 (by simp) (by kernel_rfl)
                        refine wpOp_step rfl (fun K hK => ?_)
                        simp only [putF, Act.put, List.setIfInBounds_toArray, List.set_cons_succ, List.set_cons_zero, List.getD_cons_succ, List.getD_cons_zero, Nat.reduceAdd]
                        go_simp
                        refine hK _ _ ⟨(.pointer (some ⟨g9, (k + 14) * 32, none⟩)), ?_, Below.refl _ _, rfl⟩
                        simp only [putF, Act.put, List.setIfInBounds_toArray, List.set_cons_succ, List.set_cons_zero, List.getD_cons_succ, List.getD_cons_zero, Nat.reduceAdd, e17, e19, e27]
                      | 21, _ =>
                        have e20 : xs 20 = (.pointer (some ⟨g9, (k + 14) * 32, none⟩)) := hd 20 (by simp) (by kernel_rfl)
                        exact row_step rfl rfl rfl _ _ rfl g9 ((k + 14) * 32) (by simp only [putF, Act.put, List.setIfInBounds_toArray, List.set_cons_succ, List.set_cons_zero, List.getD_cons_succ, List.getD_cons_zero, Nat.reduceAdd]; exact e20) (wl x2) _ (range_below q2 hb HWS.out.1) hur rfl (wl_size x2) rfl
                      | 22, _ =>
                        have e21 : xs 21 = (.agg (wl x2).toArray) := hd 21 (by simp) (by kernel_rfl)
                        refine wpOp_step rfl (fun K hK => ?_)
                        simp only [putF, Act.put, List.setIfInBounds_toArray, List.set_cons_succ, List.set_cons_zero, List.getD_cons_succ, List.getD_cons_zero, Nat.reduceAdd]
                        go_simp
                        refine (turns_B' x2 _).mono ?_
                        rintro e w1 ⟨rfl, hb1⟩
                        go_simp
                        refine hK _ _ ⟨(.agg (wl (sB x2)).toArray), ?_, hb1, rfl⟩
                        simp only [putF, Act.put, List.setIfInBounds_toArray, List.set_cons_succ, List.set_cons_zero, List.getD_cons_succ, List.getD_cons_zero, Nat.reduceAdd, e21, e27]
                      | 23, _ =>
                        have e5 : xs 5 = (.agg (wl x16).toArray) := hd 5 (by simp) (by kernel_rfl)
                        have e11 : xs 11 = (.agg (wl (sA x15)).toArray) := hd 11 (by simp) (by kernel_rfl)
                        have e16 : xs 16 = (.agg (wl x7).toArray) := hd 16 (by simp) (by kernel_rfl)
                        have e22 : xs 22 = (.agg (wl (sB x2)).toArray) := hd 22 (by simp) (by kernel_rfl)
                        exact build_step rfl rfl rfl _ _ _ rfl #[(0, (.agg (wl x16).toArray)), (1, (.agg (wl (sA x15)).toArray)), (2, (.agg (wl x7).toArray)), (3, (.agg (wl (sB x2)).toArray))] (by simp only [putF, Act.put, List.setIfInBounds_toArray, List.set_cons_succ, List.set_cons_zero, List.getD_cons_succ, List.getD_cons_zero, Nat.reduceAdd]; go_simp) (slcB 4 W.heap.size) (build_ws W [x16, sA x15, x7, sB x2] (by simp) (by simp) #[(0, (.agg (wl x16).toArray)), (1, (.agg (wl (sA x15)).toArray)), (2, (.agg (wl x7).toArray)), (3, (.agg (wl (sB x2)).toArray))] rfl) ((Below.refl _ _).alloc (Nat.le_refl _) _) ⟨_, rfl, hbz, Blk.new _ _ _⟩
                      | 24, _ =>
                        obtain ⟨k23, e23, hB23, hk23⟩ := hd 23 (by simp) (by kernel_rfl)
                        simp only [slcB] at e23
                        refine wpOp_step rfl (fun K hK => ?_)
                        simp only [putF, Act.put, List.setIfInBounds_toArray, List.set_cons_succ, List.set_cons_zero, List.getD_cons_succ, List.getD_cons_zero, Nat.reduceAdd]
                        go_simp
                        refine (dadd_four _ _ _ _ _ _ hk23).mono ?_
                        rintro e w1 ⟨rfl, hb1⟩
                        go_simp
                        refine hK _ _ ⟨(.agg (wl (x16 + sA x15 + x7 + sB x2)).toArray), ?_, hb1, rfl⟩
                        simp only [putF, Act.put, List.setIfInBounds_toArray, List.set_cons_succ, List.set_cons_zero, List.getD_cons_succ, List.getD_cons_zero, Nat.reduceAdd, e23, e27]
                      | 25, _ =>
                        have e24 : xs 24 = (.agg (wl (x16 + sA x15 + x7 + sB x2)).toArray) := hd 24 (by simp) (by kernel_rfl)
                        exact build_step rfl rfl rfl _ _ _ rfl #[(0, (.agg (wl (x16 + sA x15 + x7 + sB x2)).toArray))] (by simp only [putF, Act.put, List.setIfInBounds_toArray, List.set_cons_succ, List.set_cons_zero, List.getD_cons_succ, List.getD_cons_zero, Nat.reduceAdd]; go_simp) (slcB 1 W.heap.size) (build_ws W [(x16 + sA x15 + x7 + sB x2)] (by simp) (by simp) #[(0, (.agg (wl (x16 + sA x15 + x7 + sB x2)).toArray))] rfl) ((Below.refl _ _).alloc (Nat.le_refl _) _) ⟨_, rfl, hbz, Blk.new _ _ _⟩
                      | n + 26, h => exact absurd h (by simp)
                    · intro xs W hb _ hg
                      have e0 : xs 0 = (.slice (some ⟨g9, 0, none⟩) (k + 16) c9) := hg 0 (by simp)
                      obtain ⟨k25, e25, hB25, hk25⟩ := hg 25 (by simp)
                      simp only [slcB] at e25
                      rw [wsC_one] at hk25
                      obtain ⟨i0, hi0, hz0, hz1, hz2⟩ := info_parts infoWd
                      refine wpOp_step rfl (fun K hK => ?_)
                      rw [if_pos (by rfl)]
                      refine wp_append_lies W _ _ 133 rfl wo.heap.size 135 i0 (.agg zC) 32 32 Tryz.underlying133 hi0 hz0 hz1 hz2 (by simp [zC, Value.cells]) (by decide) (.slice (some ⟨g9, 0, none⟩) (k + 16) c9) (k + 16) (wls (sched bl (k + 16))) (by simp only [putF, Act.put, List.setIfInBounds_toArray, List.set_cons_succ, List.set_cons_zero, List.getD_cons_succ, List.getD_cons_zero, Nat.reduceAdd]; exact e0) (ownsRow_below HO.out hb) ⟨k25, 0, none⟩ 1 1 (wordC (x16 + sA x15 + x7 + sB x2)).toList (by simp only [putF, Act.put, List.setIfInBounds_toArray, List.set_cons_succ, List.set_cons_zero, List.getD_cons_succ, List.getD_cons_zero, Nat.reduceAdd]; exact e25) (by simp [wordC]) (World.news_of_block hk25) (wordC_one _) (by decide) (by unfold maxLen; omega) (by omega) (by have := hb.size; have := HB.out.size; omega) _ rfl ?_
                      intro g' c' w' ho hg' hl' hlt'
                      refine hK _ _ ⟨xs, g', c', rfl, Lib.hid (by rw [HSC.out, wls_snoc]; exact ho), Lib.hid ?_⟩
                      exact (HB.out.trans (hb.mono HB.out.size)).grown hg' (by have := hb.size; have := HB.out.size; omega) (fun j hj => (HO.out.lt j hj).1)
                    · rintro _ W' ⟨xs, g', c', rfl, HO', HB'⟩
                      refine wpOp_step rfl (fun K hK => ?_)
                      simp only [putF, Act.put, List.setIfInBounds_toArray, List.set_cons_succ, List.set_cons_zero, List.getD_cons_succ, List.getD_cons_zero, Nat.reduceAdd]
                      go_simp
                      refine hK _ _ ?_
                      go_wp2
                      go_roundw
                      case rel => exact ⟨g', c', k + 1, by first | rfl | (congr 1; omega), by first | rfl | (congr 1; omega), by omega, HO', HB'⟩
                      case measure => simp [intOf]; omega
                  · obtain rfl : k = 48 := by omega
                    rw [show ((48 : Nat) : Int) + 16 = 64 from rfl]
                    have HO := Lib.hid (show wr.ownsRow wo.heap.size 135 32 (.slice (some ⟨g9, 0, none⟩) 64 c9) 64 (wls (sched bl 64)) from HO.out)
                    have HW := Lib.hid (own_ws HO.out)
                    have HSU := Lib.hid (HS.out.up HB.out)
                    obtain ⟨ws, hws⟩ : ∃ ws, sched bl 64 = ws := ⟨_, rfl⟩
                    have HWL := Lib.hid (show ws.length = 64 from by rw [← hws]; exact sched_len bl 64)
                    have HBF2 := Lib.hid (show blockF v bl = v.add (rounds v ws 64) from by rw [← hws]; rfl)
                    rw [hws] at HW
                    clear hws HO
                    have hzr := HB.out.size
                    have hzs := HSU.out.bel.size
                    obtain ⟨i0, hi0, hz0, hz1, hz2⟩ := info_parts infoWd
                    have HI0 := Lib.hid hi0
                    have HI1 := Lib.hid (And.intro hz0 (And.intro hz1 hz2))
                    clear hi0 hz0 hz1 hz2
                    have HOE := Lib.hid (show (wr.alloc (.cells #[] 135)).ownsRow wr.heap.size 135 32 (.slice (some ⟨wr.heap.size, 0, none⟩) 0 0) 0 [] from World.ownsRow_lit (e := 135) (size := 32) wr #[] 0 (Nat.le_refl _) (by decide) rfl)
                    have HHC := Lib.hid (show ∀ (j : Nat) (u : Value), (wls v.toL)[j]? = some u → (wr.alloc (.cells #[] 135)).cell? ((⟨g, 0, none⟩ : Addr).add j) = some u from fun j u hu => (HSU.out.own.alloc _).cells rfl j u hu)
                    go_wp2_with (at_builtin; refine wpList_append_lies _ rfl _ _ 133 rfl wr.heap.size 135 i0 (.agg zC) 32 32 Tryz.underlying133 HI0.out HI1.out.1 HI1.out.2.1 HI1.out.2.2 (by simp [zC, Value.cells]) (by decide) _ _ _ rfl HOE.out ⟨g, 0, none⟩ 8 c (wls v.toL) rfl (wls_len _) HHC.out (fun u hu => by obtain ⟨x, _, hx⟩ := List.mem_flatMap.1 hu; exact wl_one x u hx) (by decide) (by decide) (by decide) (by simp) _ rfl ?_; intro gv cv w3 ho3 hg3 hl3 hlt3)
                    have hgv : wr.heap.size ≤ gv := (ho3.lt gv rfl).1
                    have HV0 := Lib.hid (show 8 ≤ cv ∧ WsAt w3 gv v.toL ∧ Below wo.heap.size wo w3 from ⟨own_cap ho3, own_ws ho3, (HB.out.trans (((Below.refl wr.heap.size wr).alloc (Nat.le_refl _) (.cells #[] 135)).mono hzr)).grown hg3 (by simp; omega) (fun k hk => by have := (HOE.out.lt k hk).1; omega)⟩)
                    have HS3 := Lib.hid (HS.out.up HV0.out.2.2)
                    have HW3 := Lib.hid (HW.out.up (((Below.refl wr.heap.size wr).alloc (Nat.le_refl _) (.cells #[] 135)).grown hg3 (by simp) (fun k hk => (HOE.out.lt k hk).1)))
                    clear ho3 hg3 hl3 hlt3 HOE HHC HI0 HI1 HW HSU hzs hzr
                    go_wp2
                    go_loopw [14, 106] (fun vv iv W => ∃ (gv cv k : Nat), vv = .slice (some ⟨gv, 0, none⟩) 8 cv ∧ iv = .int .i64 (k : Nat) ∧ k ≤ 64 ∧ 8 ≤ cv ∧ wo.heap.size ≤ gv ∧ Hid (WsAt W gv (rounds v ws k).toL) ∧ Hid (WsAt W g9 ws) ∧ Hid (Below wo.heap.size wo W)) (fun _ iv _ => 64 - (intOf iv).toNat)
                    case atStart => exact ⟨gv, cv, 0, rfl, rfl, Nat.zero_le _, HV0.out.1, Nat.le_trans HB.out.size hgv, Lib.hid HV0.out.2.1, HW3, Lib.hid HV0.out.2.2⟩
                    case round =>
                      clear HV0 HS3 HW3 HB hgv
                      obtain ⟨gv, cv, k, rfl, rfl, hk, hcv, hgv, HV, HW, HB⟩ := hrel
                      by_cases hk64 : k < 64
                      · have HRN := Lib.hid (show rounds v ws (k + 1) = (rounds v ws k).step (ktab.getD k 0) (ws.getD k 0) from rfl)
                        obtain ⟨kx, hkx⟩ : ∃ x, ktab.getD k 0 = x := ⟨_, rfl⟩
                        obtain ⟨wx, hwx⟩ : ∃ x, ws.getD k 0 = x := ⟨_, rfl⟩
                        have HTB := Lib.hid fun W (hb : Below wr.heap.size wr W) => ((HS.out.up HB.out).up hb).tab.2 k kx (by rw [← hkx, List.getD_eq_getElem?_getD, List.getElem?_eq_getElem (by exact hk64)]; rfl)
                        have q0 : wr.rangeAt g9 (k * 32) (wl wx) := by
                          rw [Nat.mul_comm]
                          exact HW.out.2 k wx (by rw [← hwx, List.getD_eq_getElem?_getD, List.getElem?_eq_getElem (by rw [HWL.out]; exact hk64)]; rfl)
                        rw [hkx, hwx] at HRN
                        clear hkx hwx
                        have hx32 := kx.isLt
                        have hur := Tryz.underlying135
                        have hk64i : (k : Int) < 64 := by omega
                        obtain ⟨rv, hrv⟩ : ∃ rv, rounds v ws k = rv := ⟨_, rfl⟩
                        rw [hrv] at HV HRN
                        clear hrv
                        go_upto_region 30 with fail
                        refine region_grow2 (by kernel_rfl) [some 109, some 110, some 111, some 112, some 113, some 114, some 115, some 116, some 117, some 118, some 119, some 14]
                          [eqP (.slice (some ⟨gv, 0, none⟩) 8 cv), eqP (.slice (some ⟨w.heap.size + 1, 0, none⟩) 64 64), eqP (.int .i64 (k : Int)), eqP (.pointer (some ⟨w.heap.size + 1, k, none⟩)), eqP (.int .u64 (kx.toNat : Int)), eqP (.agg (wl kx).toArray), eqP (.slice (some ⟨g9, 0, none⟩) 64 c9), eqP (.int .i64 (k : Int)), eqP (.pointer (some ⟨g9, k * 32, none⟩)), eqP (.agg (wl wx).toArray)] ?_ rfl (by kernel_rfl) rfl (by show ∀ j, j < 10 → j ∈ reachL _ 40 10; decide +kernel) (by show 10 ∈ depsL _ 11; decide +kernel) (fun a0 a' W' => ∃ xs g', a' = (putF xs [some 109, some 110, some 111, some 112, some 113, some 114, some 115, some 116, some 117, some 118, some 119, some 14] 0 a0).put (some 119) (.slice (some ⟨g', 0, none⟩) 8 8) ∧ wo.heap.size ≤ g' ∧ Hid (WsAt W' g' (rounds v ws (k + 1)).toL) ∧ Hid (Below wr.heap.size wr W')) ?_ ?_ ?_
                        · simp [ApartD]
                        · intro i hi xs W hb hh hd
                          have hbz := hb.size
                          have e11 : xs 11 = (.slice (some ⟨gv, 0, none⟩) 8 cv) := hh 11 (by simp)
                          clear hh
                          match i, hi with
                          | 0, _ =>
                            refine wpOp_step rfl (fun K hK => ?_)
                            simp only [putF, Act.put, List.setIfInBounds_toArray, List.set_cons_succ, List.set_cons_zero, List.getD_cons_succ, List.getD_cons_zero, Nat.reduceAdd]
                            go_simp
                            refine hK _ _ ⟨(.slice (some ⟨gv, 0, none⟩) 8 cv), ?_, Below.refl _ _, rfl⟩
                            simp only [putF, Act.put, List.setIfInBounds_toArray, List.set_cons_succ, List.set_cons_zero, List.getD_cons_succ, List.getD_cons_zero, Nat.reduceAdd, e11]
                          | 1, _ =>
                            refine wpOp_step rfl (fun K hK => ?_)
                            simp only [putF, Act.put, List.setIfInBounds_toArray, List.set_cons_succ, List.set_cons_zero, List.getD_cons_succ, List.getD_cons_zero, Nat.reduceAdd]
                            go_simp
                            refine hK _ _ ⟨(.slice (some ⟨w.heap.size + 1, 0, none⟩) 64 64), ?_, Below.refl _ _, rfl⟩
                            simp only [putF, Act.put, List.setIfInBounds_toArray, List.set_cons_succ, List.set_cons_zero, List.getD_cons_succ, List.getD_cons_zero, Nat.reduceAdd, e11]
                          | 2, _ =>
                            refine wpOp_step rfl (fun K hK => ?_)
                            simp only [putF, Act.put, List.setIfInBounds_toArray, List.set_cons_succ, List.set_cons_zero, List.getD_cons_succ, List.getD_cons_zero, Nat.reduceAdd]
                            go_simp
                            refine hK _ _ ⟨(.int .i64 (k : Int)), ?_, Below.refl _ _, rfl⟩
                            simp only [putF, Act.put, List.setIfInBounds_toArray, List.set_cons_succ, List.set_cons_zero, List.getD_cons_succ, List.getD_cons_zero, Nat.reduceAdd, e11]
                          | 3, _ =>
                            have e1 : xs 1 = (.slice (some ⟨w.heap.size + 1, 0, none⟩) 64 64) := hd 1 (by simp) (by kernel_rfl)
                            have e2 : xs 2 = (.int .i64 (k : Int)) := hd 2 (by simp) (by kernel_rfl)
                            refine wpOp_step rfl (fun K hK => ?_)
                            simp only [putF, Act.put, List.setIfInBounds_toArray, List.set_cons_succ, List.set_cons_zero, List.getD_cons_succ, List.getD_cons_zero, Nat.reduceAdd]
                            go_simp
                            refine hK _ _ ⟨(.pointer (some ⟨w.heap.size + 1, k, none⟩)), ?_, Below.refl _ _, rfl⟩
                            simp only [putF, Act.put, List.setIfInBounds_toArray, List.set_cons_succ, List.set_cons_zero, List.getD_cons_succ, List.getD_cons_zero, Nat.reduceAdd, e1, e2, e11]
                          | 4, _ =>
                            have e3 : xs 3 = (.pointer (some ⟨w.heap.size + 1, k, none⟩)) := hd 3 (by simp) (by kernel_rfl)
                            refine wpOp_step rfl (fun K hK => ?_)
                            simp only [putF, Act.put, List.setIfInBounds_toArray, List.set_cons_succ, List.set_cons_zero, List.getD_cons_succ, List.getD_cons_zero, Nat.reduceAdd]
                            have ck := HTB.out W hb
                            go_simp
                            refine hK _ _ ⟨(.int .u64 (kx.toNat : Int)), ?_, Below.refl _ _, rfl⟩
                            simp only [putF, Act.put, List.setIfInBounds_toArray, List.set_cons_succ, List.set_cons_zero, List.getD_cons_succ, List.getD_cons_zero, Nat.reduceAdd, e3, e11]
                          | 5, _ =>
                            have e4 : xs 4 = (.int .u64 (kx.toNat : Int)) := hd 4 (by simp) (by kernel_rfl)
                            refine wpOp_step rfl (fun K hK => ?_)
                            simp only [putF, Act.put, List.setIfInBounds_toArray, List.set_cons_succ, List.set_cons_zero, List.getD_cons_succ, List.getD_cons_zero, Nat.reduceAdd]
                            go_simp
                            refine (dof_W kx _).mono ?_
                            rintro e w1 ⟨rfl, hb1⟩
                            go_simp
                            refine hK _ _ ⟨(.agg (wl kx).toArray), ?_, hb1, rfl⟩
                            simp only [putF, Act.put, List.setIfInBounds_toArray, List.set_cons_succ, List.set_cons_zero, List.getD_cons_succ, List.getD_cons_zero, Nat.reduceAdd, e4, e11]
                          | 6, _ =>
                            refine wpOp_step rfl (fun K hK => ?_)
                            simp only [putF, Act.put, List.setIfInBounds_toArray, List.set_cons_succ, List.set_cons_zero, List.getD_cons_succ, List.getD_cons_zero, Nat.reduceAdd]
                            go_simp
                            refine hK _ _ ⟨(.slice (some ⟨g9, 0, none⟩) 64 c9), ?_, Below.refl _ _, rfl⟩
                            simp only [putF, Act.put, List.setIfInBounds_toArray, List.set_cons_succ, List.set_cons_zero, List.getD_cons_succ, List.getD_cons_zero, Nat.reduceAdd, e11]
                          | 7, _ =>
                            refine wpOp_step rfl (fun K hK => ?_)
                            simp only [putF, Act.put, List.setIfInBounds_toArray, List.set_cons_succ, List.set_cons_zero, List.getD_cons_succ, List.getD_cons_zero, Nat.reduceAdd]
                            go_simp
                            refine hK _ _ ⟨(.int .i64 (k : Int)), ?_, Below.refl _ _, rfl⟩
                            simp only [putF, Act.put, List.setIfInBounds_toArray, List.set_cons_succ, List.set_cons_zero, List.getD_cons_succ, List.getD_cons_zero, Nat.reduceAdd, e11]
                          | 8, _ =>
                            have e6 : xs 6 = (.slice (some ⟨g9, 0, none⟩) 64 c9) := hd 6 (by simp) (by kernel_rfl)
                            have e7 : xs 7 = (.int .i64 (k : Int)) := hd 7 (by simp) (by kernel_rfl)
                            refine wpOp_step rfl (fun K hK => ?_)
                            simp only [putF, Act.put, List.setIfInBounds_toArray, List.set_cons_succ, List.set_cons_zero, List.getD_cons_succ, List.getD_cons_zero, Nat.reduceAdd]
                            go_simp
                            refine hK _ _ ⟨(.pointer (some ⟨g9, k * 32, none⟩)), ?_, Below.refl _ _, rfl⟩
                            simp only [putF, Act.put, List.setIfInBounds_toArray, List.set_cons_succ, List.set_cons_zero, List.getD_cons_succ, List.getD_cons_zero, Nat.reduceAdd, e6, e7, e11]
                          | 9, _ =>
                            have e8 : xs 8 = (.pointer (some ⟨g9, k * 32, none⟩)) := hd 8 (by simp) (by kernel_rfl)
                            exact row_step rfl rfl rfl _ _ rfl g9 (k * 32) (by simp only [putF, Act.put, List.setIfInBounds_toArray, List.set_cons_succ, List.set_cons_zero, List.getD_cons_succ, List.getD_cons_zero, Nat.reduceAdd]; exact e8) (wl wx) _ (range_below q0 hb HW.out.1) hur rfl (wl_size wx) rfl
                          | n + 10, h => exact absurd h (by simp)
                        · intro xs W hb hh hg
                          have e0 : xs 0 = (.slice (some ⟨gv, 0, none⟩) 8 cv) := hg 0 (by simp)
                          have e5 : xs 5 = (.agg (wl kx).toArray) := hg 5 (by simp)
                          have e9 : xs 9 = (.agg (wl wx).toArray) := hg 9 (by simp)
                          have e11 : xs 11 = (.slice (some ⟨gv, 0, none⟩) 8 cv) := hh 11 (by simp)
                          clear hh
                          rw [wl_arr] at e5 e9
                          have HST := Lib.hid (step_any rv kx wx gv cv W (HV.out.up hb) hcv)
                          refine wpOp_step rfl (fun K hK => ?_)
                          simp only [putF, Act.put, List.setIfInBounds_toArray, List.set_cons_succ, List.set_cons_zero, List.getD_cons_succ, List.getD_cons_zero, Nat.reduceAdd]
                          go_simp
                          refine HST.out.mono ?_
                          rintro e w4 ⟨g', rfl, hg', hw4, hb4⟩
                          go_simp
                          refine hK _ _ ⟨xs, g', ?_, by have := hb.size; have := HB.out.size; omega, Lib.hid (by rw [HRN.out]; exact hw4), Lib.hid (hb.trans (hb4.mono hb.size))⟩
                          simp only [putF, Act.put, List.setIfInBounds_toArray, List.set_cons_succ, List.set_cons_zero, List.getD_cons_succ, List.getD_cons_zero, Nat.reduceAdd, e0, e5, e9, e11]
                        · rintro _ W' ⟨xs, g', rfl, hg', HV', HB'⟩
                          refine wpOp_step rfl (fun K hK => ?_)
                          simp only [putF, Act.put, List.setIfInBounds_toArray, List.set_cons_succ, List.set_cons_zero, List.getD_cons_succ, List.getD_cons_zero, Nat.reduceAdd]
                          go_simp
                          refine hK _ _ ?_
                          have HV9 := Lib.hid (HW.out.up HB'.out)
                          have HBN := Lib.hid (HB.out.trans (HB'.out.mono HB.out.size))
                          go_wp2
                          go_roundw
                          case rel => exact ⟨g', 8, k + 1, rfl, by go_num, by omega, by omega, hg', HV', HV9, HBN⟩
                          case measure => simp [intOf]; omega
                      · obtain rfl : k = 64 := by omega
                        rw [show ((64 : Nat) : Int) = 64 from rfl]
                        have HS7 := Lib.hid (HS.out.up HB.out)
                        obtain ⟨rv, hrv⟩ : ∃ rv, rounds v ws 64 = rv := ⟨_, rfl⟩
                        rw [hrv] at HV HBF2
                        clear hrv HW HWL
                        obtain ⟨wp, rfl⟩ : ∃ wp : World, wp = wr := ⟨_, rfl⟩
                        go_wp2
                        go_loopw [123] (fun iv W => ∃ k : Nat, iv = .int .i64 (k : Nat) ∧ k ≤ 8 ∧ Hid (SumI w (w.heap.size + 1) gb g c (L.flatMap byteB) (mixL v rv k) W) ∧ Hid (WsAt W gv rv.toL) ∧ Hid (wp.heap.size ≤ W.heap.size)) (fun iv _ => 8 - (intOf iv).toNat)
                        case atStart => exact ⟨0, rfl, Nat.zero_le _, HS7, HV, Lib.hid (Nat.le_refl _)⟩
                        case round =>
                          clear HS7 HV
                          obtain ⟨k, rfl, hk, HS7, HV, HZ⟩ := hrel
                          by_cases hk8 : k < 8
                          · obtain ⟨m1, m2, m3⟩ := mixL_set v rv k hk8
                            obtain ⟨xa, hxa⟩ : ∃ x, v.toL.getD k 0 = x := ⟨_, rfl⟩
                            obtain ⟨ra, hra⟩ : ∃ x, rv.toL.getD k 0 = x := ⟨_, rfl⟩
                            rw [hxa, hra] at m1
                            rw [hxa] at m2
                            rw [hra] at m3
                            have HMX := Lib.hid m1
                            have hgl := (HS7.out.own.lt g rfl).2
                            have qa : wr.rangeAt g (k * 32) (wl xa) := by rw [Nat.mul_comm]; exact (own_ws HS7.out.own).2 k xa m2
                            have qr : wr.rangeAt gv (k * 32) (wl ra) := by rw [Nat.mul_comm]; exact HV.out.2 k ra m3
                            have hgn : g < wo.heap.size := (HS.out.own.lt g rfl).2
                            clear m1 m2 m3 hxa hra
                            have hur := Tryz.underlying135
                            have hk8i : (k : Int) < 8 := by omega
                            go_upto_region 35 with fail
                            refine region_growP (by kernel_rfl) [some 126, some 127, some 128, some 129, some 130, some 131, some 132, some 133, some 134, some 135, some 136, some 137, some 138, none]
                              [eqP (.slice (some ⟨g, 0, none⟩) 8 c), eqP (.int .i64 (k : Int)), eqP (.slice (some ⟨g, 0, none⟩) 8 c), eqP (.int .i64 (k : Int)), eqP (.pointer (some ⟨g, k * 32, none⟩)), eqP (.agg (wl xa).toArray), eqP (.slice (some ⟨gv, 0, none⟩) 8 cv), eqP (.int .i64 (k : Int)), eqP (.pointer (some ⟨gv, k * 32, none⟩)), eqP (.agg (wl ra).toArray), blkP wr.heap.size (slcB 2) 135 (wsC [xa, ra]), eqP (.agg (wl (xa + ra)).toArray), eqP (.pointer (some ⟨g, k * 32, none⟩))] ?_ rfl (by kernel_rfl) (by simp) ?_ (by simp) ?_ ?_
                            · simp [ApartD]
                            · intro i j h1 h2 h3
                              have : i = 13 := by simp at h1 h2; omega
                              subst this
                              clear h1 h2
                              revert j
                              decide +kernel
                            · intro i hi xs W hb hd
                              have hbz := hb.size
                              match i, hi with
                              | 0, _ =>
                                refine wpOp_step rfl (fun K hK => ?_)
                                simp only [putF, Act.put, List.setIfInBounds_toArray, List.set_cons_succ, List.set_cons_zero, List.getD_cons_succ, List.getD_cons_zero, Nat.reduceAdd]
                                go_simp
                                refine hK _ _ ⟨(.slice (some ⟨g, 0, none⟩) 8 c), ?_, Below.refl _ _, rfl⟩
                                simp only [putF, Act.put, List.setIfInBounds_toArray, List.set_cons_succ, List.set_cons_zero, List.getD_cons_succ, List.getD_cons_zero, Nat.reduceAdd]
                              | 1, _ =>
                                refine wpOp_step rfl (fun K hK => ?_)
                                simp only [putF, Act.put, List.setIfInBounds_toArray, List.set_cons_succ, List.set_cons_zero, List.getD_cons_succ, List.getD_cons_zero, Nat.reduceAdd]
                                go_simp
                                refine hK _ _ ⟨(.int .i64 (k : Int)), ?_, Below.refl _ _, rfl⟩
                                simp only [putF, Act.put, List.setIfInBounds_toArray, List.set_cons_succ, List.set_cons_zero, List.getD_cons_succ, List.getD_cons_zero, Nat.reduceAdd]
                              | 2, _ =>
                                refine wpOp_step rfl (fun K hK => ?_)
                                simp only [putF, Act.put, List.setIfInBounds_toArray, List.set_cons_succ, List.set_cons_zero, List.getD_cons_succ, List.getD_cons_zero, Nat.reduceAdd]
                                go_simp
                                refine hK _ _ ⟨(.slice (some ⟨g, 0, none⟩) 8 c), ?_, Below.refl _ _, rfl⟩
                                simp only [putF, Act.put, List.setIfInBounds_toArray, List.set_cons_succ, List.set_cons_zero, List.getD_cons_succ, List.getD_cons_zero, Nat.reduceAdd]
                              | 3, _ =>
                                refine wpOp_step rfl (fun K hK => ?_)
                                simp only [putF, Act.put, List.setIfInBounds_toArray, List.set_cons_succ, List.set_cons_zero, List.getD_cons_succ, List.getD_cons_zero, Nat.reduceAdd]
                                go_simp
                                refine hK _ _ ⟨(.int .i64 (k : Int)), ?_, Below.refl _ _, rfl⟩
                                simp only [putF, Act.put, List.setIfInBounds_toArray, List.set_cons_succ, List.set_cons_zero, List.getD_cons_succ, List.getD_cons_zero, Nat.reduceAdd]
                              | 4, _ =>
                                have e2 : xs 2 = (.slice (some ⟨g, 0, none⟩) 8 c) := hd 2 (by simp) (by kernel_rfl)
                                have e3 : xs 3 = (.int .i64 (k : Int)) := hd 3 (by simp) (by kernel_rfl)
                                refine wpOp_step rfl (fun K hK => ?_)
                                simp only [putF, Act.put, List.setIfInBounds_toArray, List.set_cons_succ, List.set_cons_zero, List.getD_cons_succ, List.getD_cons_zero, Nat.reduceAdd]
                                go_simp
                                refine hK _ _ ⟨(.pointer (some ⟨g, k * 32, none⟩)), ?_, Below.refl _ _, rfl⟩
                                simp only [putF, Act.put, List.setIfInBounds_toArray, List.set_cons_succ, List.set_cons_zero, List.getD_cons_succ, List.getD_cons_zero, Nat.reduceAdd, e2, e3]
                              | 5, _ =>
                                have e4 : xs 4 = (.pointer (some ⟨g, k * 32, none⟩)) := hd 4 (by simp) (by kernel_rfl)
                                exact row_step rfl rfl rfl _ _ rfl g (k * 32) (by simp only [putF, Act.put, List.setIfInBounds_toArray, List.set_cons_succ, List.set_cons_zero, List.getD_cons_succ, List.getD_cons_zero, Nat.reduceAdd]; exact e4) (wl xa) _ (range_below qa hb hgl) hur rfl (wl_size xa) rfl
                              | 6, _ =>
                                refine wpOp_step rfl (fun K hK => ?_)
                                simp only [putF, Act.put, List.setIfInBounds_toArray, List.set_cons_succ, List.set_cons_zero, List.getD_cons_succ, List.getD_cons_zero, Nat.reduceAdd]
                                go_simp
                                refine hK _ _ ⟨(.slice (some ⟨gv, 0, none⟩) 8 cv), ?_, Below.refl _ _, rfl⟩
                                simp only [putF, Act.put, List.setIfInBounds_toArray, List.set_cons_succ, List.set_cons_zero, List.getD_cons_succ, List.getD_cons_zero, Nat.reduceAdd]
                              | 7, _ =>
                                refine wpOp_step rfl (fun K hK => ?_)
                                simp only [putF, Act.put, List.setIfInBounds_toArray, List.set_cons_succ, List.set_cons_zero, List.getD_cons_succ, List.getD_cons_zero, Nat.reduceAdd]
                                go_simp
                                refine hK _ _ ⟨(.int .i64 (k : Int)), ?_, Below.refl _ _, rfl⟩
                                simp only [putF, Act.put, List.setIfInBounds_toArray, List.set_cons_succ, List.set_cons_zero, List.getD_cons_succ, List.getD_cons_zero, Nat.reduceAdd]
                              | 8, _ =>
                                have e6 : xs 6 = (.slice (some ⟨gv, 0, none⟩) 8 cv) := hd 6 (by simp) (by kernel_rfl)
                                have e7 : xs 7 = (.int .i64 (k : Int)) := hd 7 (by simp) (by kernel_rfl)
                                refine wpOp_step rfl (fun K hK => ?_)
                                simp only [putF, Act.put, List.setIfInBounds_toArray, List.set_cons_succ, List.set_cons_zero, List.getD_cons_succ, List.getD_cons_zero, Nat.reduceAdd]
                                go_simp
                                refine hK _ _ ⟨(.pointer (some ⟨gv, k * 32, none⟩)), ?_, Below.refl _ _, rfl⟩
                                simp only [putF, Act.put, List.setIfInBounds_toArray, List.set_cons_succ, List.set_cons_zero, List.getD_cons_succ, List.getD_cons_zero, Nat.reduceAdd, e6, e7]
                              | 9, _ =>
                                have e8 : xs 8 = (.pointer (some ⟨gv, k * 32, none⟩)) := hd 8 (by simp) (by kernel_rfl)
                                exact row_step rfl rfl rfl _ _ rfl gv (k * 32) (by simp only [putF, Act.put, List.setIfInBounds_toArray, List.set_cons_succ, List.set_cons_zero, List.getD_cons_succ, List.getD_cons_zero, Nat.reduceAdd]; exact e8) (wl ra) _ (range_below qr hb HV.out.1) hur rfl (wl_size ra) rfl
                              | 10, _ =>
                                have e5 : xs 5 = (.agg (wl xa).toArray) := hd 5 (by simp) (by kernel_rfl)
                                have e9 : xs 9 = (.agg (wl ra).toArray) := hd 9 (by simp) (by kernel_rfl)
                                exact build_step rfl rfl rfl _ _ _ rfl #[(0, (.agg (wl xa).toArray)), (1, (.agg (wl ra).toArray))] (by simp only [putF, Act.put, List.setIfInBounds_toArray, List.set_cons_succ, List.set_cons_zero, List.getD_cons_succ, List.getD_cons_zero, Nat.reduceAdd]; go_simp) (slcB 2 W.heap.size) (build_ws W [xa, ra] (by simp) (by simp) #[(0, (.agg (wl xa).toArray)), (1, (.agg (wl ra).toArray))] rfl) ((Below.refl _ _).alloc (Nat.le_refl _) _) ⟨_, rfl, hbz, Blk.new _ _ _⟩
                              | 11, _ =>
                                obtain ⟨k10, e10, hB10, hk10⟩ := hd 10 (by simp) (by kernel_rfl)
                                simp only [slcB] at e10
                                refine wpOp_step rfl (fun K hK => ?_)
                                simp only [putF, Act.put, List.setIfInBounds_toArray, List.set_cons_succ, List.set_cons_zero, List.getD_cons_succ, List.getD_cons_zero, Nat.reduceAdd]
                                go_simp
                                refine (dadd_two _ _ _ _ hk10).mono ?_
                                rintro e w1 ⟨rfl, hb1⟩
                                go_simp
                                refine hK _ _ ⟨(.agg (wl (xa + ra)).toArray), ?_, hb1, rfl⟩
                                simp only [putF, Act.put, List.setIfInBounds_toArray, List.set_cons_succ, List.set_cons_zero, List.getD_cons_succ, List.getD_cons_zero, Nat.reduceAdd, e10]
                              | 12, _ =>
                                have e0 : xs 0 = (.slice (some ⟨g, 0, none⟩) 8 c) := hd 0 (by simp) (by kernel_rfl)
                                have e1 : xs 1 = (.int .i64 (k : Int)) := hd 1 (by simp) (by kernel_rfl)
                                refine wpOp_step rfl (fun K hK => ?_)
                                simp only [putF, Act.put, List.setIfInBounds_toArray, List.set_cons_succ, List.set_cons_zero, List.getD_cons_succ, List.getD_cons_zero, Nat.reduceAdd]
                                go_simp
                                refine hK _ _ ⟨(.pointer (some ⟨g, k * 32, none⟩)), ?_, Below.refl _ _, rfl⟩
                                simp only [putF, Act.put, List.setIfInBounds_toArray, List.set_cons_succ, List.set_cons_zero, List.getD_cons_succ, List.getD_cons_zero, Nat.reduceAdd, e0, e1]
                              | n + 13, h => exact absurd h (by simp)
                            · intro xs W hb hg
                              rw [if_neg (by simp)]
                              have e11 : xs 11 = (.agg (wl (xa + ra)).toArray) := hg 11 (by simp)
                              have e12 : xs 12 = (.pointer (some ⟨g, k * 32, none⟩)) := hg 12 (by simp)
                              clear hg
                              have HSW := Lib.hid (HS7.out.up hb)
                              have hth := own_wthere HSW.out.own hk8
                              refine row_store rfl rfl rfl _ _ _ rfl g (k * 32) (by simp only [putF, Act.put, List.setIfInBounds_toArray, List.set_cons_succ, List.set_cons_zero, List.getD_cons_succ, List.getD_cons_zero, Nat.reduceAdd]; exact e12) (wl (xa + ra)) (by simp only [putF, Act.put, List.setIfInBounds_toArray, List.set_cons_succ, List.set_cons_zero, List.getD_cons_succ, List.getD_cons_zero, Nat.reduceAdd]; exact e11) (by rw [wl_len, Nat.mul_comm]; exact hth) (wl_size _) (wl_one _) ?_
                              clear hth
                              have HSN := Lib.hid (show SumI w (w.heap.size + 1) gb g c (L.flatMap byteB) (mixL v rv (k + 1)) (W.setCells g (k * 32) (wl (xa + ra))) from by rw [← HMX.out, Nat.mul_comm]; exact HSW.out.set hk8 _)
                              have HVN := Lib.hid (show WsAt (W.setCells g (k * 32) (wl (xa + ra))) gv rv.toL from ws_cells (HV.out.up hb) (by omega) _ _)
                              have HZN := Lib.hid (show wp.heap.size ≤ (W.setCells g (k * 32) (wl (xa + ra))).heap.size from by rw [cells_size]; exact Nat.le_trans HZ.out hb.size)
                              simp only [putF, Act.put, List.setIfInBounds_toArray, List.set_cons_succ, List.set_cons_zero, List.getD_cons_succ, List.getD_cons_zero, Nat.reduceAdd, e11, e12]
                              go_wp2
                              go_roundw
                              case rel => exact ⟨k + 1, by go_num, by omega, HSN, HVN, HZN⟩
                              case measure => simp [intOf]; omega
                          · obtain rfl : k = 8 := by omega
                            have HS8 := Lib.hid (show SumI w (w.heap.size + 1) gb g c (L.flatMap byteB) (blocksN htab L (b + 1)).toL wr from by rw [HBF.out, HBF2.out]; exact HS7.out)
                            clear HS7 HV HZ
                            go_wp2
                            go_roundw
                            case rel => exact ⟨b + 1, o', cl - 512, rfl, by omega, by omega, ho', HS8⟩
                            case measure => simp [sliceLen]; omega
        · have hbe : b = nb := by omega
          subst hbe
          have e0 : 512 * (b - b) = 0 := by omega
          rw [e0]
          clear ho e0 hcl
          obtain ⟨v, hv⟩ : ∃ v, blocksN htab L b = v := ⟨_, rfl⟩
          rw [hv] at HS HSUM
          clear hv
          obtain ⟨wo, rfl⟩ : ∃ wo : World, wo = wr := ⟨_, rfl⟩
          have hzo := HS.out.bel.size
          have HG := Lib.hid (HS.out.own.lt g rfl)
          go_wp2
          go_loopw [17, 143] (fun ov iv W => ∃ (go co k : Nat), ov = .slice (some ⟨go, 0, none⟩) (4 * k : Nat) co ∧ iv = .int .i64 (k : Nat) ∧ k ≤ 8 ∧ Hid (W.ownsRow wo.heap.size 5 1 (.slice (some ⟨go, 0, none⟩) (4 * k) co) (4 * k) (bytesV ((v.toL.take k).flatMap bytesW))) ∧ Hid (Below wo.heap.size wo W)) (fun _ iv _ => 8 - (intOf iv).toNat)
          case atStart =>
            refine ⟨wo.heap.size, 0, 0, rfl, rfl, Nat.zero_le _, Lib.hid ?_, Lib.hid ((Below.refl _ wo).alloc (Nat.le_refl _) _)⟩
            exact World.ownsRow_lit (e := 5) (size := 1) wo #[] 0 (Nat.le_refl _) (by decide) rfl
          case round =>
            obtain ⟨go, co, k, rfl, rfl, hk, HO, HB⟩ := hrel
            by_cases hk8 : k < 8
            · obtain ⟨x, hx⟩ : ∃ x, v.toL[k]? = some x := ⟨_, List.getElem?_eq_getElem hk8⟩
              have HTK := Lib.hid (show (v.toL.take (k + 1)).flatMap bytesW = (v.toL.take k).flatMap bytesW ++ bytesQ x from by rw [take_snocW hx, List.flatMap_append]; unfold bytesQ; rw [topN_bytes]; simp)
              have HRG := Lib.hid (show wr.rangeAt g (32 * k) (wordC x).toList from by rw [← wl_is]; exact (own_ws (HS.out.up HB.out).own).2 k x hx)
              obtain ⟨pre, hpre⟩ : ∃ pre, (v.toL.take k).flatMap bytesW = pre := ⟨_, rfl⟩
              rw [hpre] at HO HTK
              clear hpre hx
              obtain ⟨wi, rfl⟩ : ∃ wi : World, wi = wr := ⟨_, rfl⟩
              have HN0 := Lib.hid (Blk.new wi 135 zC)
              have hz := zC_lit
              have hek : k * 32 = 32 * k := Nat.mul_comm _ _
              have hk8i : (k : Int) < 8 := by omega
              have hzi := HB.out.size
              go_wp2_with (first
                | (refine wpList_load_midA rfl 135 _ rfl g (32 * k) (by first | rfl | (simp [hek])) (wordC x) _ HRG.out Tryz.underlying135 rfl (sizeWC _) ?_)
                | (refine wpList_store_row rfl 135 _ _ rfl wi.heap.size (wordC x) rfl rfl 135 zC HN0.out (sizeWC _) (by simp [zC, wordC]) (bitsC_one _) ?_))
              have HX := Lib.hid (show Blk ((wi.alloc (.cells zC 135)).setRow wi.heap.size (wordC x)) wi.heap.size 135 (wordC x) from HN0.out.row)
              have HB5 := Lib.hid (show Below wi.heap.size wi ((wi.alloc (.cells zC 135)).setRow wi.heap.size (wordC x)) from below_row ((Below.refl _ wi).alloc (Nat.le_refl _) _) (Nat.le_refl _) _)
              have hne := (HO.out.lt go rfl).2
              have HO5 := Lib.hid (ownsRow_below HO.out HB5.out)
              have HB6 := Lib.hid (HB.out.trans (HB5.out.mono hzi))
              clear HN0 HRG hz hek HO HB HB5
              generalize (wi.alloc (.cells zC 135)).setRow wi.heap.size (wordC x) = w5 at *
              go_loopw [17, 20] (fun ov iv W => ∃ (go co q : Nat), ov = .slice (some ⟨go, 0, none⟩) (4 * k + q : Nat) co ∧ iv = .int .i64 (8 * q : Nat) ∧ q ≤ 4 ∧ Hid (go ≠ wi.heap.size) ∧ Hid (W.ownsRow wo.heap.size 5 1 (.slice (some ⟨go, 0, none⟩) (4 * k + q) co) (4 * k + q) (bytesV (pre ++ (bytesQ x).take q))) ∧ Hid (Blk W wi.heap.size 135 (wordC x)) ∧ Hid (Below wo.heap.size wo W)) (fun _ iv _ => 32 - (intOf iv).toNat)
              case atStart => exact ⟨go, co, 0, rfl, rfl, Nat.zero_le _, Lib.hid (by omega), Lib.hid (by simpa using HO5.out), HX, HB6⟩
              case round =>
                clear HO5 HX HB6 hne
                obtain ⟨go, co, q, rfl, rfl, hq, HNE, HO, HX, HB⟩ := hrel
                by_cases hq4 : q < 4
                · obtain ⟨wq, rfl⟩ : ∃ wq : World, wq = wr := ⟨_, rfl⟩
                  have h32 : ((8 * q : Nat) : Int) < 32 := by omega
                  have hqs : (8 * q : Nat) ≤ 24 := by omega
                  go_wp2
                  go_loopw [21, 22] (fun cv iv W => ∃ j : Nat, cv = .int .u8 (topN x (8 * q) j : Nat) ∧ iv = .int .i64 (8 * q + j : Nat) ∧ j ≤ 8 ∧ W = wq) (fun _ iv _ => 40 - (intOf iv).toNat)
                  case atStart => exact ⟨0, by rw [topN_zero]; rfl, rfl, by omega, rfl⟩
                  case round =>
                    obtain ⟨j, rfl, rfl, hj, rfl⟩ := hrel
                    by_cases hj8 : j < 8
                    · have hs := topN_succ x (8 * q) j (by omega)
                      have hlt := topN_lt x (8 * q) j
                      have hp : 2 ^ j ≤ 128 := by
                        have : 2 ^ j ≤ 2 ^ 7 := Nat.pow_le_pow_right (by decide) (by omega)
                        omega
                      have cx := HX.out.cell (8 * q + j)
                      rw [show (wordC x)[8 * q + j]? = some (.bool (x.getMsbD (8 * q + j))) from bitsC_get _ (by omega)] at cx
                      have HTS := Lib.hid hs
                      have hjq : ((8 * q + j : Nat) : Int) < ((8 * q : Nat) : Int) + 8 := by omega
                      have hjb : ((8 * q + j : Nat) : Int) < 32 := by omega
                      have htb : topN x (8 * q) j ≤ 127 := by omega
                      clear hs hlt hp
                      generalize topN x (8 * q) j = tj at *
                      generalize x.getMsbD (8 * q + j) = bt at *
                      cases bt with
                      | true =>
                        go_wp2
                        go_roundw
                        case rel => exact ⟨j + 1, by rw [HTS.out]; simp, by go_num, by omega, trivial⟩
                        case measure => simp [intOf]; omega
                      | false =>
                        go_wp2
                        go_roundw
                        case rel => exact ⟨j + 1, by rw [HTS.out]; simp, by go_num, by omega, trivial⟩
                        case measure => simp [intOf]; omega
                    · obtain rfl : j = 8 := by omega
                      have hjq : ¬ ((8 * q + 8 : Nat) : Int) < ((8 * q : Nat) : Int) + 8 := by omega
                      have HBY := Lib.hid (show (pre ++ (bytesQ x).take (q + 1)) = (pre ++ (bytesQ x).take q) ++ [UInt8.ofNat (topN x (8 * q) 8)] from by rw [bytesQ_snoc x q hq4, List.append_assoc])
                      have HTB := Lib.hid (top_byte x (8 * q))
                      have hzq := HB.out.size
                      have hzx := HX.out.lt
                      generalize topN x (8 * q) 8 = tb at *
                      go_wp2_with (at_builtin; refine wpList_app1 rfl _ _ 76 rfl wo.heap.size 5 Tryz.underlying76 infoB rfl (by decide) _ _ _ rfl HO.out _ rfl rfl (oneCell_int _ _) (by omega) (by omega) hzq ?_; intro g1 c1 w6 ho6 hg6 hb6 hl6)
                      have HO6 := Lib.hid (show w6.ownsRow wo.heap.size 5 1 (.slice (some ⟨g1, 0, none⟩) (4 * k + (q + 1)) c1) (4 * k + (q + 1)) (bytesV (pre ++ (bytesQ x).take (q + 1))) from by
                        rw [HBY.out, bytesV_app, ← Nat.add_assoc]
                        have e : bytesV [UInt8.ofNat tb] = [.int .u8 (tb : Int)] := by simp only [bytesV, List.map_cons, List.map_nil, HTB.out]
                        rw [e]
                        exact ho6)
                      have HX6 := Lib.hid (HX.out.grown hg6 (fun e => HNE.out (Option.some.inj e).symm))
                      have HB6 := Lib.hid (HB.out.trans hb6)
                      have HNE6 := Lib.hid (show g1 ≠ wi.heap.size from by
                        have h1 := HNE.out
                        have h2 := HX.out.lt
                        rcases hl6 with e | e
                        · rw [← Option.some.inj e]; exact h1
                        · omega)
                      clear ho6 hg6 hb6 hl6 HO HX HB HBY HTB
                      go_wp2
                      go_roundw
                      case rel => exact ⟨g1, c1, q + 1, rfl, by first | rfl | (congr 1; omega), by omega, HNE6, HO6, HX6, HB6⟩
                      case measure => simp [intOf]; omega
                · obtain rfl : q = 4 := by omega
                  have HO6 := Lib.hid (show wr.ownsRow wo.heap.size 5 1 (.slice (some ⟨go, 0, none⟩) (4 * (k + 1)) co) (4 * (k + 1)) (bytesV ((v.toL.take (k + 1)).flatMap bytesW)) from by
                    rw [HTK.out]
                    have h := HO.out
                    rw [show (bytesQ x).take 4 = bytesQ x from rfl] at h
                    exact h)
                  clear HO HX
                  rw [show ((8 * 4 : Nat) : Int) = 32 from rfl]
                  go_wp2
                  go_roundw
                  case rel => exact ⟨go, co, k + 1, rfl, by go_num, by omega, HO6, HB⟩
                  case measure => simp [intOf]; omega
            · obtain rfl : k = 8 := by omega
              have hown := HO.out
              rw [show v.toL.take 8 = v.toL from rfl, ← HSUM.out] at hown
              rw [show ((8 : Nat) : Int) = 8 from rfl]
              have hcv := run_convert_own 76 9 5 Tryz.underlying76 Tryz.underlying5 Tryz.underlying9 hown
              clear hown
              go_wp2
              go_ret
              exact ⟨rfl, HS.out.bel.trans (HB.out.mono hzo)⟩
end Go.Proofs.YtpeepdkeicgkiaaGreatDoor
