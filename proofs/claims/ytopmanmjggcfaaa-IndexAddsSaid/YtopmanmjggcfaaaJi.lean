/- The index's laws: is. -/
import Derived.Test.YtopmanmjggcfaaaJh
import Derived.Test.YtopmanmjggcfaaaJd
import Derived.Test.YtopmanmjggcfaaaIc
import Derived.Deep.RegionHeld3
namespace Go.Proofs.Ytopmanmjggcfaaa
open Go.RowKit

theorem namesI_len (l : List (ByteArray × Pl)) : (namesI l).length = l.length := by unfold namesI; rw [List.length_map]
theorem namesI_snoc (l : List (ByteArray × Pl)) (k : Nat) (h : k < l.length) : (namesI l).take (k + 1) = (namesI l).take k ++ [l[k].1] := by
  unfold namesI
  rw [List.take_succ_eq_append_getElem (by rw [List.length_map]; exact h)]
  simp
theorem ixAt_below {w W : World} {b : Nat} {mb rb : Option Nat} {X : Ix} (h : IxAt w b mb rb X) (hb : Below w.heap.size w W) : IxAt W b mb rb X := h.below hb
theorem keepI {w0 W W' : World} {p : Addr} {u : Value} (h : W.cell? p = some u ∧ Below w0.heap.size w0 W) (hb : Below W.heap.size W W') : W'.cell? p = some u ∧ Below w0.heap.size w0 W' :=
  ⟨(hb.cell (World.block_lt_of_cell? _ _ h.1)).trans h.1, h.2.trans (hb.mono h.2.size)⟩
theorem keepIB {w0 W : World} {p : Addr} {u : Value} (h : W.cell? p = some u ∧ Below w0.heap.size w0 W) : Below w0.heap.size w0 W := h.2
def NamesPost (l : List (ByteArray × Pl)) (w : World) (e : Ending) (w' : World) : Prop := ∃ A1 c1, e = .returned (.slice A1 l.length c1) ∧ StrsA w' w'.heap.size A1 (namesI l) ∧ Below w.heap.size w w'
theorem names_len (b : Nat) (mb rb : Option Nat) (X : Ix) (w : World) (h : IxAt w b mb rb X) (hu : kvUp X.places) (hl : X.places.length ≤ 1000000) :
    Calls Try.prog 20 #[.pointer (some ⟨b, 0, none⟩)] w (NamesPost X.places w) := (names_any b mb rb X w h hu hl).mono fun e w' ⟨A1, c1, he, hs, _, hb⟩ => ⟨A1, c1, by rw [he, namesI_len], hs, hb⟩
def PacksPost (l : List ByteArray) (w : World) (e : Ending) (w' : World) : Prop := ∃ A1 c1, e = .returned (.slice A1 l.length c1) ∧ StrsA w' w'.heap.size A1 l ∧ Below w.heap.size w w'
theorem packs_len (b : Nat) (mb rb : Option Nat) (X : Ix) (w : World) (h : IxAt w b mb rb X) (hl : X.packs.length ≤ 1000000) :
    Calls Try.prog 19 #[.pointer (some ⟨b, 0, none⟩)] w (PacksPost X.packs w) := (packs_any b mb rb X w h hl).mono fun _e _w' ⟨A1, c1, he, hs, _, hb⟩ => ⟨A1, c1, he, hs, hb⟩
theorem lsame_len (A B : Option Addr) (c d : Nat) (l : List (ByteArray × Pl)) (w : World) (ha : StrsA w w.heap.size A (namesI l)) (hb : StrsA w w.heap.size B (namesI l)) (hl : l.length ≤ 1000000) :
    Calls Try.prog 26 #[.slice A l.length c, .slice B l.length d] w fun e w' => e = .returned (.int .i64 0) ∧ Below w.heap.size w w' := by
  have := lsame_any A B c d (namesI l) w ha hb (by rw [namesI_len]; exact hl)
  rwa [namesI_len] at this
set_option maxRecDepth 100000 in
set_option maxHeartbeats 3200000 in
theorem is_any (b : Nat) (mb rb : Option Nat) (X : Ix) (A B : Option Addr) (c d : Nat) (w : World) (hi : IxAt w b mb rb X) (hst : StrsA w w.heap.size A X.packs) (hro : RowA w w.heap.size 7 B ((valsI X).map plC)) (hok : X.Ok) (hnp : X.packs.length ≤ 1000000) (hnq : X.places.length ≤ 1000000) (hsz : ∀ p ∈ X.places, p.1.size ≤ 9223372036854775807) :
    Calls Try.prog 14 #[.pointer (some ⟨b, 0, none⟩), rixV X.packs (valsI X) A c B d] w fun e w' => e = .returned (.bool true) ∧ Below w.heap.size w w' := by
  have HI := Lib.hid hi
  have HST := Lib.hid hst
  have HRO := Lib.hid hro
  have HOK := Lib.hid hok
  have HSZ := Lib.hid hsz
  unfold rixV
  have hvl := valsI_len X
  clear hi hst hro hok hsz
  generalize hnL : (valsI X).length = nL at *
  obtain rfl : nL = X.places.length := hvl
  have HNL := Lib.hid hnL
  clear hnL
  have hnl := namesI_len X.places
  go_enter Try.func14, Try.ntmps14
  have hb0 : Below w.heap.size w (w.alloc (.cells #[.slice A X.packs.length c, .slice B X.places.length d] 43)) := (Below.refl w.heap.size w).alloc (Nat.le_refl _) _
  have HK0 := Lib.hid (Cx.of_blk (Blk.new w 43 #[.slice A X.packs.length c, .slice B X.places.length d]))
  have HB0 := Lib.hid hb0
  clear hb0
  go_upto_region 1 with fail
  generalize w.alloc (.cells #[.slice A X.packs.length c, .slice B X.places.length d] 43) = w0 at *
  have c1 : w0.cell? ⟨w.heap.size, 1, none⟩ = some (.slice B X.places.length d) := HK0.out.2
  have hlt0 : w.heap.size < w0.heap.size := World.block_lt_of_cell? _ _ HK0.out.1
  have HOW := Lib.hid (show (w0.alloc (.cells #[] 9)).ownsRow w0.heap.size 9 1 (.slice (some ⟨w0.heap.size, 0, none⟩) 0 0) 0 [] from
    World.ownsRow_lit (e := 9) (size := 1) (base := w0.heap.size) w0 #[] 0 (Nat.le_refl _) (by decide) rfl)
  have HBW := Lib.hid ((Below.refl w0.heap.size w0).alloc (Nat.le_refl _) (.cells #[] 9))
  go_wp2
  go_loopw [5, 14] (fun nv i wr => ∃ (k : Nat) (A9 : Option Addr) (c9 : Nat), nv = .slice A9 k c9 ∧ i = .int .i64 (k : Nat) ∧ k ≤ X.places.length ∧ wr.ownsRow w0.heap.size 9 1 (.slice A9 k c9) k (strsV ((namesI X.places).take k)) ∧ Below w0.heap.size w0 wr) (fun _ i _ => X.places.length - (intOf i).toNat)
  case atStart => exact ⟨0, some ⟨w0.heap.size, 0, none⟩, 0, rfl, rfl, Nat.zero_le _, HOW.out, HBW.out⟩
  case round =>
    obtain ⟨k, A9, c9, rfl, rfl, hk, hown, hb⟩ := hrel
    have HO := Lib.hid hown
    have HB := Lib.hid hb
    clear hown hb HOW HBW c1
    by_cases hkl : k < X.places.length
    · have hek := List.getElem?_eq_getElem hkl
      obtain ⟨g, o, rfl, hgl, hcell⟩ := HRO.out (by rw [List.length_map, HNL.out]; omega)
      have hpc := hcell k (plC X.places[k].2) (by unfold valsI; rw [List.getElem?_map, List.getElem?_map, hek]; rfl)
      have HPC := Lib.hid fun (i : Nat) (u : Value) (hi : (plC X.places[k].2)[i]? = some u) => ((HB0.out.trans (HB.out.mono HB0.out.size)).cell (p := ⟨g, o + k * 7 + i, none⟩) hgl).trans (hpc i u hi)
      have hkey := HOK.out.key _ (List.getElem_mem hkl)
      have hget : kvGet X.places X.places[k].1 = some X.places[k].2 := kvGet_of_mem HOK.out.up.apart (List.getElem_mem hkl)
      have hnz := HSZ.out _ (List.getElem_mem hkl)
      have HSN := Lib.hid (namesI_snoc X.places k hkl)
      clear hcell hek hpc
      generalize X.places[k] = e at *
      obtain ⟨nm, p⟩ := e
      simp only at *
      subst hkey
      have hf := fun W h => find_any b mb rb X p.head.name W h hnz
      rw [hget] at hf
      unfold plV plC at hf
      simp only [Option.getD_some, Option.isSome_some] at hf
      have HF := Lib.hid hf
      clear hf hget
      have q0 : wr.cell? ⟨g, o + k * 7, none⟩ = some (.string p.pack) := HPC.out 0 _ rfl
      have q1 : wr.cell? ⟨g, o + k * 7 + 1, none⟩ = some (.string p.head.name) := HPC.out 1 _ rfl
      have q2 : wr.cell? ⟨g, o + k * 7 + 2, none⟩ = some (.int .i64 p.head.method) := HPC.out 2 _ rfl
      have q3 : wr.cell? ⟨g, o + k * 7 + 3, none⟩ = some (.int .u32 p.head.crc) := HPC.out 3 _ rfl
      have q4 : wr.cell? ⟨g, o + k * 7 + 4, none⟩ = some (.int .i64 p.head.packed) := HPC.out 4 _ rfl
      have q5 : wr.cell? ⟨g, o + k * 7 + 5, none⟩ = some (.int .i64 p.head.size) := HPC.out 5 _ rfl
      have q6 : wr.cell? ⟨g, o + k * 7 + 6, none⟩ = some (.int .i64 p.head.at_) := HPC.out 6 _ rfl
      have hk0 : (0 : Int) ≤ (k : Int) := by omega
      have hk1 : (k : Int) < (X.places.length : Int) := by omega
      have hk3 : ((k : Int)).toNat = k := by omega
      clear HPC
      go_upto_region 5 with fail
      have hba : Below wr.heap.size wr (wr.alloc (.cells #[.string p.pack, .string p.head.name, .int .i64 p.head.method, .int .u32 p.head.crc, .int .i64 p.head.packed, .int .i64 p.head.size, .int .i64 p.head.at_] 50)) := (Below.refl _ _).alloc (Nat.le_refl _) _
      have HKA := Lib.hid (Blk.new wr 50 #[.string p.pack, .string p.head.name, .int .i64 p.head.method, .int .u32 p.head.crc, .int .i64 p.head.packed, .int .i64 p.head.size, .int .i64 p.head.at_])
      have HOA := Lib.hid (HO.out.alloc (.cells #[.string p.pack, .string p.head.name, .int .i64 p.head.method, .int .u32 p.head.crc, .int .i64 p.head.packed, .int .i64 p.head.size, .int .i64 p.head.at_] 50))
      have HL := Lib.hid fun j (h : (Value.slice A9 k c9).ownBlock = some j) => (HO.out.lt j h).2
      have HBA := Lib.hid (HB.out.trans (hba.mono HB.out.size))
      clear hba q0 q1 q2 q3 q4 q5 q6 HO HB hk0 hk1 hk3
      generalize wr.alloc (.cells #[.string p.pack, .string p.head.name, .int .i64 p.head.method, .int .u32 p.head.crc, .int .i64 p.head.packed, .int .i64 p.head.size, .int .i64 p.head.at_] 50) = wa at *
      have a1 : wa.cell? ⟨wr.heap.size, 1, none⟩ = some (.string p.head.name) := HKA.out.cell 1
      go_wp2_with (at_builtin; refine wpList_app1 rfl _ _ 25 rfl w0.heap.size 9 Try.underlying25 infoS rfl (by decide) _ _ _ rfl HOA.out _ rfl rfl (oneCell_string _) (by omega) (by omega) HBA.out.size ?_)
      intro g5 cap5 w5 ho5 hg5 hb5 hl5
      have HK5 := Lib.hid (HKA.out.grown hg5 (fun e => absurd (HL.out _ e.symm) (Nat.lt_irrefl _)))
      have HO5 := Lib.hid (show w5.ownsRow w0.heap.size 9 1 (.slice (some ⟨g5, 0, none⟩) (k + 1) cap5) (k + 1) (strsV ((namesI X.places).take (k + 1))) by rw [HSN.out]; simpa [strsV] using ho5)
      have HB5 := Lib.hid (HBA.out.trans hb5)
      have HI5 := Lib.hid (HI.out.below (HB0.out.trans (HB5.out.mono HB0.out.size)))
      have k1 : w5.cell? ⟨wr.heap.size, 1, none⟩ = some (.string p.head.name) := HK5.out.cell 1
      clear ho5 hg5 hb5 hl5 a1 HKA HOA HBA
      go_wp2_with fail
      refine (HF.out _ HI5.out).mono ?_
      rintro e w6 ⟨rfl, hb6⟩
      have hb7 : Below w5.heap.size w5 (w6.alloc (.cells #[.string p.pack, .string p.head.name, .int .i64 p.head.method, .int .u32 p.head.crc, .int .i64 p.head.packed, .int .i64 p.head.size, .int .i64 p.head.at_] 34)) := hb6.alloc hb6.size _
      have HK7 := Lib.hid (HK5.out.below hb7 HK5.out.lt)
      have HQ7 := Lib.hid (Blk.new w6 34 #[.string p.pack, .string p.head.name, .int .i64 p.head.method, .int .u32 p.head.crc, .int .i64 p.head.packed, .int .i64 p.head.size, .int .i64 p.head.at_])
      have HB7 := Lib.hid (HB5.out.trans (hb7.mono HB5.out.size))
      have HO7 := Lib.hid (own_at HO5.out fun j hj => hb7.block j (HO5.out.lt j hj).2)
      clear hb6 hb7 k1 HI5 HF
      go_upto_region 7 with fail
      generalize w6.alloc (.cells #[.string p.pack, .string p.head.name, .int .i64 p.head.method, .int .u32 p.head.crc, .int .i64 p.head.packed, .int .i64 p.head.size, .int .i64 p.head.at_] 34) = w7 at *
      obtain ⟨⟨a0, a1, a2, a3, a4, a5, a6⟩, _⟩ := blk7 HK7.out
      obtain ⟨⟨b0, b1, b2, b3, b4, b5, b6⟩, _⟩ := blk7 HQ7.out
      go_wp2
      go_roundw
      case rel => exact ⟨k + 1, some ⟨g5, 0, none⟩, cap5, by go_num, by go_num, by omega, HO7.out, HB7.out⟩
      case measure => simp [intOf]; omega
    · have hek : k = X.places.length := by omega
      subst hek
      have HBZ := Lib.hid (HB0.out.trans (HB.out.mono HB0.out.size))
      have hsn := own_strs (l := namesI X.places) (by have := HO.out; rwa [List.take_of_length_le (by rw [hnl]; exact Nat.le_refl _)] at this)
      have HS9 := Lib.hid hsn.1
      have HIX := Lib.hid fun W (hW : Below wr.heap.size wr W) => HI.out.below (HBZ.out.trans (hW.mono HBZ.out.size))
      have HNA := Lib.hid fun W h => names_len b mb rb X W h HOK.out.up hnq
      have HPA := Lib.hid fun W h => packs_len b mb rb X W h hnp
      have HSA := Lib.hid fun W A1 c1 h1 h2 => lsame_len A1 A9 c1 c9 X.places W h1 h2 hnq
      have HSB := Lib.hid fun W A2 c2 h1 h2 => lsame_any A2 A c2 c X.packs W h1 h2 hnp
      have c0 : wr.cell? ⟨w.heap.size, 0, none⟩ = some (.slice A X.packs.length c) := (HK0.out.below HB.out).1
      have HS := Lib.hid (show wr.cell? ⟨w.heap.size, 0, none⟩ = some (.slice A X.packs.length c) ∧ Below wr.heap.size wr wr from ⟨c0, Below.refl _ _⟩)
      clear hsn c0
      go_upto_region 10 with fail
      go_region_held3 (fun W => W.cell? ⟨w.heap.size, 0, none⟩ = some (.slice A X.packs.length c) ∧ Below wr.heap.size wr W)
        (first | exact hk4 | exact keepI HS.out (Below.refl _ _).drew | exact HS.out)
        (first
          | (go_at_call 20; ((with_reducible refine (HNA.out _ (HIX.out _ (keepIB (u := .slice A X.packs.length c) (p := ⟨w.heap.size, 0, none⟩) (by assumption)))).mono ?_); rintro e w1 ⟨A1, c1, rfl, hs1, hb1⟩; have hk4 := keepI (by assumption) hb1))
          | (go_at_call 26; ((with_reducible refine (HSA.out _ A1 c1 hs1 (StrsA.below HS9.out (keepIB (u := .slice A X.packs.length c) (p := ⟨w.heap.size, 0, none⟩) (by assumption)))).mono ?_); rintro e w2 ⟨rfl, hb2⟩; have hk4 := keepI (by assumption) hb2))
          | (go_at_call 19; ((with_reducible refine (HPA.out _ (HIX.out _ (keepIB (u := .slice A X.packs.length c) (p := ⟨w.heap.size, 0, none⟩) (by assumption)))).mono ?_); rintro e w3 ⟨A2, c2, rfl, hs2, hb3⟩; have hk4 := keepI (by assumption) hb3))
          | (go_at_call 26; ((with_reducible refine (HSB.out _ A2 c2 hs2 (StrsA.below HST.out (HBZ.out.trans ((keepIB (u := .slice A X.packs.length c) (p := ⟨w.heap.size, 0, none⟩) (by assumption)).mono HBZ.out.size)))).mono ?_); rintro e w4 ⟨rfl, hb4⟩; have hk4 := keepI (by assumption) hb4)))
      have HBF := Lib.hid (HBZ.out.trans (hk4.2.mono HBZ.out.size))
      clear hk4
      go_wp2
      go_ret
      exact ⟨rfl, HBF.out⟩
end Go.Proofs.Ytopmanmjggcfaaa
