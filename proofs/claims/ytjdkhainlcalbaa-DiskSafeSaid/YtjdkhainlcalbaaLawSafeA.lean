/- The law DiskSafe: the walk. -/
import Derived.Test.YtjdkhainlcalbaaLawSafe
import Derived.Test.YtjdkhainlcalbaaLawSwapsA
namespace Go.Proofs.Ytjdkhainlcalbaa
open Go.RowKit Go.Maps

theorem RowInt.two {w w' : World} {v : Value} {l : List Int} (h : RowInt w v l) (hb : Below w.heap.size w w') : RowInt w' v l := h.below hb
section
variable {w0 w : World} {b : Nat} {D : Dk} {L : Lay}
theorem doUp (x : Op14) (h : DkUp w0 w b D L) (hx : Op14Ok w x) (hsm : D.small 400000) :
    Calls Try.prog 40 #[.pointer (some ⟨b, 0, none⟩), .agg x.cells] w fun e w' => e = .returned (.int .i64 (dkDo D x).2) ∧ ∃ L', DkUp w0 w' b (dkDo D x).1 L' :=
  (do_any b D L x w h.at' hx hsm).mono fun _e _w' ⟨h1, h2⟩ => ⟨h1, h.post h2⟩
end
theorem Op14Ok.below {w w' : World} {x : Op14} (h : Op14Ok w x) (hb : Below w.heap.size w w') : Op14Ok w' x := ⟨h.src, h.dst, h.at', h.row.below hb, h.kok, h.few, h.shp⟩
/-- behind k calls, none of them of this file -/
def SafeR (w : World) (b k : Nat) (wr : World) : Prop := ∃ D L, DkUp w wr b D L ∧ SafeI k D
/-- behind the appends of it -/
def MineR (w : World) (b : Nat) (data all : ByteArray) (wr : World) : Prop := ∃ D L, DkUp w wr b D L ∧ MineI D data all

set_option maxHeartbeats 6400000 in
set_option maxRecDepth 100000 in
theorem safe_all (ops : List Op14) (vo : Value) (data0 : ByteArray) (more : List ByteArray) (vm : Value) (ks : List Int) (vk : Value) (w : World) (ho : RowOp14 w vo ops) (hd0 : data0.size ≤ 9223372036854775807) (hv : ReadsS w vm more) (hl : more.length ≤ 9223372036854775807 ∧ ∀ s ∈ more, s.size ≤ 9223372036854775807) (hvk : RowInt w vk ks) (hkk : KeepsOk ks) :
    Calls Try.prog 10 #[vo, .string data0, vm, vk] w fun e w' => e = .returned (.bool true) ∧ Below w.heap.size w w' := by
  have HN := Lib.hid (newUp 100000 w w (Below.refl _ _) (by decide))
  have HA := Lib.hid fun w' => awake14_any w'
  obtain ⟨ao, co, rfl, hlo, hcello⟩ := ho
  obtain ⟨a, c, rfl, hcell⟩ := hv
  obtain ⟨hl1, hl2⟩ := hl
  have HO := Lib.hid hcello
  have HV := Lib.hid hcell
  have HZ := Lib.hid hl2
  have HVK := Lib.hid hvk
  have HKK := Lib.hid hkk
  clear hcello hcell hl2 hvk hkk
  go_enter Try.func10, Try.ntmps10
  go_wp2_with fail
  refine HN.out.mono ?_
  rintro e w1 ⟨b, L, rfl, hu⟩
  have HI := Lib.hid (show SafeR w b 0 w1 from ⟨_, L, hu, ⟨rfl, rfl, rfl, fun f hf => by simp [dkNew] at hf, Nat.le_refl _, Nat.le_refl _, Nat.le_refl _, fun p hp => by simp [dkNew] at hp, fun p hp => by simp [dkNew] at hp, fun s hs => by simp [dkNew] at hs⟩⟩)
  clear hu HN
  go_upto_if 32 with (fail)
  go_cut [1] (fun s9 wc => s9 = .string (cutB 200 data0) ∧ w1 = wc)
  case first =>
    by_cases h : 200 < data0.size
    · have E := Lib.hid (show cutB 200 data0 = data0.extract 0 200 from if_pos h)
      go_wp2_with (fail)
      go_meet
      exact ⟨by rw [E.out], rfl⟩
    · have E := Lib.hid (show cutB 200 data0 = data0 from if_neg h)
      go_wp2_with (fail)
      go_meet
      exact ⟨by rw [E.out], rfl⟩
  case rest =>
    obtain ⟨rfl, rfl⟩ := hcut
    have hdz := cutB_le 200 data0
    clear hd0
    generalize cutB 200 data0 = data at *
    go_wp2
    go_loopw [11] (fun i wr => ∃ k, k ≤ 40 ∧ k ≤ ops.length ∧ i = .int .i64 (k : Nat) ∧ SafeR w b k wr) (fun i _ => 40 - (intOf i).toNat)
    case atStart => exact ⟨0, by omega, by omega, rfl, HI.out⟩
    case round =>
      clear HI
      obtain ⟨k, hk, hkl, rfl, D, L, hu, hs⟩ := hrel
      have HU := Lib.hid hu
      have HS := Lib.hid hs
      clear hu hs
      by_cases hlt : k < ops.length ∧ k < 40
      · obtain ⟨h1, h2⟩ := hlt
        obtain ⟨bb, oo, cs, rfl, hbb, ⟨rfl, hok⟩, hcc⟩ := HO.out k h1
        have hc0 : wr.cell? ⟨bb, oo + k * 5, none⟩ = some (.int .i64 (ops[k]).kind) := (HU.out.bel.cell (p := ⟨bb, oo + k * 5, none⟩) hbb).trans (hcc 0 _ rfl)
        have hc1 : wr.cell? ⟨bb, oo + k * 5 + 1, none⟩ = some (.string (ops[k]).src) := (HU.out.bel.cell (p := ⟨bb, oo + k * 5 + 1, none⟩) hbb).trans (hcc 1 _ rfl)
        have hc2 : wr.cell? ⟨bb, oo + k * 5 + 2, none⟩ = some (.string (ops[k]).dst) := (HU.out.bel.cell (p := ⟨bb, oo + k * 5 + 2, none⟩) hbb).trans (hcc 2 _ rfl)
        have hc3 : wr.cell? ⟨bb, oo + k * 5 + 3, none⟩ = some (.int .i64 (ops[k]).at') := (HU.out.bel.cell (p := ⟨bb, oo + k * 5 + 3, none⟩) hbb).trans (hcc 3 _ rfl)
        have hc4 : wr.cell? ⟨bb, oo + k * 5 + 4, none⟩ = some (ops[k]).kv := (HU.out.bel.cell (p := ⟨bb, oo + k * 5 + 4, none⟩) hbb).trans (hcc 4 _ rfl)
        clear hcc
        generalize ops[k] = x at *
        obtain ⟨kind, src, dst, at', kv, kk⟩ := x
        simp only at hc0 hc1 hc2 hc3 hc4
        have hsh : ∃ ka kn kc, kv = .slice ka kn kc := by
          rcases hok.shp with ⟨_, _, _, h⟩ | h
          · exact ⟨_, _, _, h⟩
          · exact ⟨_, _, _, h⟩
        obtain ⟨ka, kn, kc, rfl⟩ := hsh
        have HOK := Lib.hid hok
        clear hok
        have HBX := Lib.hid fun o : Obj => ((Below.refl _ wr).alloc (Nat.le_refl _) o : Below wr.heap.size wr (wr.alloc o))
        have HNX := Lib.hid fun o : Obj => (show SafeR w b (k + 1) (wr.alloc o) from ⟨D, L, HU.out.up (HBX.out o), HS.out.next⟩)
        by_cases h6 : kind = 6
        · subst h6
          go_wp2
          go_roundw
          case rel => exact ⟨k + 1, by omega, by omega, by go_num, HNX.out _⟩
          case measure => simp [intOf]; omega
        · have q6 : (kind != 6) = true := by simpa using h6
          by_cases hsm : src = nMine
          · have qs : (src.toList == [109, 105, 110, 101]) = true := by rw [hsm, ba_toList]; rfl
            clear hsm h6
            go_wp2
            go_roundw
            case rel => exact ⟨k + 1, by omega, by omega, by go_num, HNX.out _⟩
            case measure => simp [intOf]; omega
          · have qs : (src.toList == [109, 105, 110, 101]) = false := by
              have : ¬ src.toList = nMine.toList := fun e => hsm (by
                rw [ba_toList, ba_toList] at e
                exact ByteArray.ext (Array.toList_inj.1 e))
              have e2 : nMine.toList = [109, 105, 110, 101] := by rw [ba_toList]; rfl
              rw [e2] at this
              simpa using this
            by_cases hdm : dst = nMine
            · have qd : (dst.toList == [109, 105, 110, 101]) = true := by rw [hdm, ba_toList]; rfl
              clear hsm hdm h6
              go_wp2
              go_roundw
              case rel => exact ⟨k + 1, by omega, by omega, by go_num, HNX.out _⟩
              case measure => simp [intOf]; omega
            · have qd : (dst.toList == [109, 105, 110, 101]) = false := by
                have : ¬ dst.toList = nMine.toList := fun e => hdm (by
                  rw [ba_toList, ba_toList] at e
                  exact ByteArray.ext (Array.toList_inj.1 e))
                have e2 : nMine.toList = [109, 105, 110, 101] := by rw [ba_toList]; rfl
                rw [e2] at this
                simpa using this
              have HC := Lib.hid fun o : Obj => doUp ⟨kind, src, dst, at', .slice ka kn kc, kk⟩ (HU.out.up (HBX.out o)) ((HOK.out.below HU.out.bel).below (HBX.out o)) ⟨by have := HS.out.fl; omega, by have := HS.out.st; omega⟩
              have HD := Lib.hid (HS.out.do' ⟨kind, src, dst, at', .slice ka kn kc, kk⟩ h6 hsm hdm)
              generalize dkDo D ⟨kind, src, dst, at', .slice ka kn kc, kk⟩ = r at *
              unfold Op14.cells at HC
              clear hsm hdm h6
              go_wp2_with fail
              refine (HC.out _).mono ?_
              rintro e w4 ⟨rfl, L4, hu4⟩
              have HI4 := Lib.hid (show SafeR w b (k + 1) w4 from ⟨_, L4, hu4, HD.out⟩)
              clear hu4 HC
              go_wp2
              go_roundw
              case rel => exact ⟨k + 1, by omega, by omega, by go_num, HI4.out⟩
              case measure => simp [intOf]; omega
      · have HS40 := Lib.hid (show SafeI 40 D from by
          obtain ⟨j, hj⟩ : ∃ j, 40 = k + j := ⟨40 - k, by omega⟩
          have : ∀ j, SafeI (k + j) D := fun j => by
            induction j with
            | zero => exact HS.out
            | succ j ih => exact ih.next
          rw [hj]; exact this j)
        obtain ⟨D1, D2, D3, e1, e2, e3, hm3, s1, s2⟩ := mine_start HS40.out HU.out.at'.ok data hdz
        have HC1 := Lib.hid (appendUp nMine data HU.out (by decide) (by omega) ⟨by have := HS.out.fl; omega, by have := HS.out.st; omega⟩)
        rw [e1] at HC1
        have HC2 := Lib.hid fun W L (h : DkUp w W b D1 L) => syncUp nMine h (by decide)
        rw [e2] at HC2
        have HC3 := Lib.hid fun W L (h : DkUp w W b D2 L) => settleUp h
        rw [e3] at HC3
        have HM3 := Lib.hid hm3
        clear e1 e2 e3 hm3 s1 s2 HS HS40
        rcases (by omega : ¬ k < ops.length ∨ (k < ops.length ∧ ¬ k < 40)) with h1 | ⟨h1, h2⟩
        all_goals
          clear hlt
          go_wp2_with fail
          refine HC1.out.mono ?_
          rintro e w2 ⟨rfl, L2, hu2⟩
          have HU2 := Lib.hid hu2
          clear hu2 HC1
          go_wp2_with fail
          refine (HC2.out _ _ HU2.out).mono ?_
          rintro e w3 ⟨rfl, L3, hu3⟩
          have HU3 := Lib.hid hu3
          clear hu3 HC2
          go_wp2_with fail
          refine (HC3.out _ _ HU3.out).mono ?_
          rintro e w4 ⟨rfl, L4, hu4⟩
          have HI4 := Lib.hid (show MineR w b data data w4 from ⟨D3, L4, hu4, HM3.out⟩)
          clear hu4 HC3
          go_wp2
          go_loopw [13, 14] (fun sa i wr => ∃ k all, k ≤ 20 ∧ k ≤ more.length ∧ i = .int .i64 (k : Nat) ∧ sa = .string all ∧ all.size ≤ 200 + 100 * k ∧ MineR w b data all wr) (fun _ i _ => 20 - (intOf i).toNat)
          case atStart => exact ⟨0, data, by omega, by omega, rfl, rfl, by omega, HI4.out⟩
          case round =>
            clear HI4 HU HU2 HU3 HM3
            obtain ⟨k, all, hk, hkl, rfl, rfl, haz, D, L, hu, hm⟩ := hrel
            have HU := Lib.hid hu
            have HM := Lib.hid hm
            clear hu hm
            by_cases hlt : k < more.length ∧ k < 20
            · obtain ⟨h1, h2⟩ := hlt
              obtain ⟨bb, oo, rfl, hbb, hcc⟩ := HV.out k h1
              have hcr : wr.cell? ⟨bb, oo + k, none⟩ = some (.string more[k]) := (HU.out.bel.cell (p := ⟨bb, oo + k, none⟩) hbb).trans hcc
              have hrz := HZ.out more[k] (List.getElem_mem _)
              clear hcc
              generalize more[k] = r at hcr hrz
              go_upto_if 96 with (fail)
              go_cut [15] (fun s9 wc => s9 = .string (cutB 100 r) ∧ wr = wc)
              case first =>
                by_cases h : 100 < r.size
                · have E := Lib.hid (show cutB 100 r = r.extract 0 100 from if_pos h)
                  go_wp2_with (fail)
                  go_meet
                  exact ⟨by rw [E.out], rfl⟩
                · have E := Lib.hid (show cutB 100 r = r from if_neg h)
                  go_wp2_with (fail)
                  go_meet
                  exact ⟨by rw [E.out], rfl⟩
              case rest =>
                obtain ⟨rfl, rfl⟩ := hcut
                have hcz := cutB_le 100 r
                clear hrz
                generalize cutB 100 r = s at *
                obtain ⟨D5, e5, hm5⟩ := mine_more HM.out (s := s) (by omega) hcz
                have HC := Lib.hid (appendUp nMine s HU.out (by decide) (by omega) ⟨by have := HM.out.fl; omega, by rw [HM.out.st]; exact Nat.zero_le _⟩)
                rw [e5] at HC
                have HM5 := Lib.hid hm5
                clear e5 hm5
                go_wp2_with fail
                refine HC.out.mono ?_
                rintro e w6 ⟨rfl, L6, hu6⟩
                have HI6 := Lib.hid (show MineR w b data (all ++ s) w6 from ⟨D5, L6, hu6, HM5.out⟩)
                clear hu6 HC
                go_wp2
                go_roundw
                case rel => exact ⟨k + 1, all ++ s, by omega, by omega, by go_num, rfl, by rw [ByteArray.size_append]; omega, HI6.out⟩
                case measure => simp [intOf]; omega
            · obtain ⟨m, hm1, hm2, hr1, hr2, hs2⟩ := mine_crash HM.out HU.out.at'.ok ks
              have hsz : (all.extract 0 m).size = m := by rw [ByteArray.size_extract]; omega
              have hss : ((all.extract 0 (all.extract 0 m).size).toList == (all.extract 0 m).toList) = true := by rw [hsz]; simp
              have hz1 : data.size ≤ (all.extract 0 m).size := by omega
              have hz2 : (all.extract 0 m).size ≤ all.size := by omega
              have HC1 := Lib.hid fun W L (h : DkUp w W b D L) => crashUp ks vk h (HVK.out.below h.bel) HKK.out ⟨by have := HM.out.fl; omega, by rw [HM.out.st]; exact Nat.zero_le _⟩
              have HC2 := Lib.hid fun W L (h : DkUp w W b (D.crash ks) L) => readUp nMine h (by decide)
              rw [hr1] at HC2
              have HC3 := Lib.hid fun W L (h : DkUp w W b (D.crash ks) L) => crashUp ks vk h (HVK.out.below h.bel) HKK.out hs2
              have HC4 := Lib.hid fun W L (h : DkUp w W b ((D.crash ks).crash ks) L) => readUp nMine h (by decide)
              rw [hr2] at HC4
              clear hm1 hm2 hr1 hr2 hs2 hsz
              generalize all.extract 0 m = s at *
              rcases (by omega : ¬ k < more.length ∨ (k < more.length ∧ ¬ k < 20)) with h1 | ⟨h1, h2⟩
              all_goals
                clear hlt
                go_wp2_with fail
                refine (HC1.out _ _ HU.out).mono ?_
                rintro e w6 ⟨rfl, L6, hu6⟩
                have HU6 := Lib.hid hu6
                clear hu6 HC1
                go_wp2_with fail
                refine (HC2.out _ _ HU6.out).mono ?_
                rintro e w7 ⟨rfl, rfl⟩
                clear HC2
                go_wp2_with fail
                refine (HC3.out _ _ HU6.out).mono ?_
                rintro e w8 ⟨rfl, L8, hu8⟩
                have HU8 := Lib.hid hu8
                clear hu8 HC3
                go_wp2_with fail
                refine (HC4.out _ _ HU8.out).mono ?_
                rintro e w9 ⟨rfl, rfl⟩
                clear HC4
                go_wp2_with fail
                refine (HA.out _).mono ?_
                rintro e w10 ⟨rfl, hb10⟩
                have HB := Lib.hid (HU8.out.up hb10).bel
                clear hb10
                go_wp2
                go_ret
                exact ⟨rfl, HB.out⟩
end Go.Proofs.Ytjdkhainlcalbaa
