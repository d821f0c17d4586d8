/- The document's index: Number, Find. -/
import Derived.Test.YtopmanmjggcfaaaIb
namespace Go.Proofs.Ytopmanmjggcfaaa
open Go.RowKit

/-- a place's number among the packs; -1: none -/
def numP (l : List ByteArray) (p : ByteArray) : Int := if hasP l p = true then (idxP l p : Int) else -1
theorem numP_in {l : List ByteArray} {p : ByteArray} (h : p ∈ l) : numP l p = idxP l p := if_pos (hasP_iff.2 h)
theorem numP_no {l : List ByteArray} {p : ByteArray} (h : hasP l p = false) : numP l p = -1 := if_neg (by simp [h])
theorem numP_at {l : List ByteArray} {p : ByteArray} {k : Nat} (hk : k < l.length) (h : l[k] = p) (hn : p ∉ l.take k) : numP l p = k := by
  have hm : p ∈ l := h ▸ List.getElem_mem hk
  rw [numP_in hm]
  congr 1
  unfold idxP
  rw [List.findIdx_eq hk]
  refine ⟨by simpa using h, fun j hj => ?_⟩
  simp only [decide_eq_false_iff_not]
  intro e
  exact hn (List.mem_take_iff_getElem.2 ⟨j, by omega, e⟩)
/-- the document's index -/
def rixV (P : List ByteArray) (L : List Pl) (A : Option Addr) (c : Nat) (B : Option Addr) (d : Nat) : Value := .agg #[.slice A P.length c, .slice B L.length d]
def RixAt (w : World) (P : List ByteArray) (L : List Pl) (A B : Option Addr) : Prop := StrsA w w.heap.size A P ∧ RowA w w.heap.size 7 B (L.map plC)
theorem RixAt.below {w w' : World} {P : List ByteArray} {L : List Pl} {A B : Option Addr} (h : RixAt w P L A B) (hb : Below w.heap.size w w') : RixAt w' P L A B := ⟨h.1.below hb, h.2.below hb⟩
set_option maxRecDepth 100000 in
set_option maxHeartbeats 800000 in
theorem rnumber_any (P : List ByteArray) (L : List Pl) (A B : Option Addr) (c d : Nat) (p : ByteArray) (w : World) (h : StrsA w w.heap.size A P) (hl : P.length ≤ 9223372036854775807) :
    Calls Try.prog 25 #[rixV P L A c B d, .string p] w fun e w' => e = .returned (.int .i64 (numP P p)) ∧ Below w.heap.size w w' := by
  have HH := Lib.hid h
  clear h
  unfold rixV
  go_enter Try.func25, Try.ntmps25
  have hb0 : Below w.heap.size w (w.alloc (.cells #[.slice A P.length c, .slice B L.length d] 43)) := (Below.refl _ _).alloc (Nat.le_refl _) _
  have hk0 := Blk.new w 43 #[.slice A P.length c, .slice B L.length d]
  have HB0 := Lib.hid hb0
  have HK0 := Lib.hid hk0
  clear hb0 hk0
  go_wp2
  go_loopw [10] (fun t wr => ∃ k : Nat, t = .int .i64 (k : Nat) ∧ k ≤ P.length ∧ p ∉ P.take k ∧ Below w.heap.size w wr) (fun t _ => P.length - (intOf t).toNat)
  case atStart => exact ⟨0, rfl, Nat.zero_le _, by simp, HB0.out⟩
  case round =>
    obtain ⟨k, rfl, hk, hn, hb⟩ := hrel
    have HN := Lib.hid hn
    have HB := Lib.hid hb
    clear hn hb
    by_cases hkl : k < P.length
    · have hek := List.getElem?_eq_getElem hkl
      obtain ⟨g, o, rfl, hgl, hcell⟩ := HH.out (by omega)
      have q0 : wr.cell? ⟨g, o + k, none⟩ = some (.string P[k]) := (HB.out.cell (p := ⟨g, o + k, none⟩) hgl).trans (hcell k _ hek)
      have hk0 : (0 : Int) ≤ (k : Int) := by omega
      have hk1 : (k : Int) < (P.length : Int) := by omega
      have hk3 : ((k : Int)).toNat = k := by omega
      have hne := txt_ne P[k] p
      have HNA := Lib.hid fun h => numP_at (p := p) hkl h HN.out
      have HNT := Lib.hid fun (h : ¬ P[k] = p) => show p ∉ P.take (k + 1) by
        rw [List.take_succ_eq_append_getElem hkl, List.mem_append]
        rintro (e | e)
        · exact HN.out e
        · exact h (by simpa using e : p = P[k]).symm
      clear hcell hek
      generalize P[k] = x at *
      by_cases hx : x = p
      · rw [decide_eq_true hx] at hne
        have HR := Lib.hid (HNA.out hx)
        have HBW := Lib.hid fun (o : Obj) => (HB.out.alloc (by exact HB.out.size) o)
        clear hx
        go_wp2
        go_ret
        exact ⟨ret_int HR.out.symm, HB.out⟩
      · rw [decide_eq_false hx] at hne
        have HR := Lib.hid (HNT.out hx)
        clear hx
        go_wp2
        go_roundw
        case rel => exact ⟨k + 1, by go_num, by omega, HR.out, HB.out⟩
        case measure => simp [intOf]; omega
    · have hek : k = P.length := by omega
      have HR := Lib.hid (numP_no (l := P) (p := p) (by
        have hn := HN.out
        rw [hek, List.take_length, ← hasP_iff] at hn
        simpa using hn))
      go_wp2
      go_ret
      exact ⟨ret_int HR.out.symm, HB.out⟩
theorem kvGet_keyed (L : List Pl) (name : ByteArray) : kvGet (keyed L) name = L.find? fun p => decide (p.head.name = name) := by
  unfold kvGet keyed
  rw [List.find?_map, Option.map_map]
  cases h : List.find? ((fun p : ByteArray × Pl => decide (p.1 = name)) ∘ fun p => (p.head.name, p)) L with
  | none => simp only [Option.map_none]; exact h.symm
  | some q => simp only [Option.map_some, Function.comp_apply]; exact h.symm
theorem kget_at {L : List Pl} {name : ByteArray} {k : Nat} (hk : k < L.length) (h : L[k].head.name = name) (hn : ∀ p ∈ L.take k, p.head.name ≠ name) : kvGet (keyed L) name = some L[k] := by
  rw [kvGet_keyed, List.find?_eq_some_iff_getElem]
  refine ⟨by simpa using h, k, hk, rfl, fun j hj => ?_⟩
  have := hn L[j] (List.mem_take_iff_getElem.2 ⟨j, by omega, rfl⟩)
  simpa using this
theorem kget_no {L : List Pl} {name : ByteArray} (hn : ∀ p ∈ L, p.head.name ≠ name) : kvGet (keyed L) name = none := by
  rw [kvGet_keyed, List.find?_eq_none]
  intro p hp
  simpa using hn p hp
theorem blk7 {w : World} {g : Nat} {t : TypeId} {c0 c1 c2 c3 c4 c5 c6 : Value} (h : Blk w g t #[c0, c1, c2, c3, c4, c5, c6]) :
    (w.cell? ⟨g, 0, none⟩ = some c0 ∧ w.cell? ⟨g, 1, none⟩ = some c1 ∧ w.cell? ⟨g, 2, none⟩ = some c2 ∧ w.cell? ⟨g, 3, none⟩ = some c3 ∧ w.cell? ⟨g, 4, none⟩ = some c4 ∧ w.cell? ⟨g, 5, none⟩ = some c5 ∧ w.cell? ⟨g, 6, none⟩ = some c6) ∧
    (w.frozen? ⟨g, 0, none⟩ = false ∧ w.frozen? ⟨g, 1, none⟩ = false ∧ w.frozen? ⟨g, 2, none⟩ = false ∧ w.frozen? ⟨g, 3, none⟩ = false ∧ w.frozen? ⟨g, 4, none⟩ = false ∧ w.frozen? ⟨g, 5, none⟩ = false ∧ w.frozen? ⟨g, 6, none⟩ = false) :=
  ⟨⟨h.cell 0, h.cell 1, h.cell 2, h.cell 3, h.cell 4, h.cell 5, h.cell 6⟩, ⟨h.frozen 0, h.frozen 1, h.frozen 2, h.frozen 3, h.frozen 4, h.frozen 5, h.frozen 6⟩⟩
theorem below_set7 {B g : Nat} {w0 w : World} (h : Below B w0 w) (hg : B ≤ g) (v0 v1 v2 v3 v4 v5 v6 : Value) : Below B w0 (((((((w.setCell ⟨g, 0, none⟩ v0).setCell ⟨g, 1, none⟩ v1).setCell ⟨g, 2, none⟩ v2).setCell ⟨g, 3, none⟩ v3).setCell ⟨g, 4, none⟩ v4).setCell ⟨g, 5, none⟩ v5).setCell ⟨g, 6, none⟩ v6) :=
  ((((((h.setCell (p := ⟨g, 0, none⟩) hg v0).setCell (p := ⟨g, 1, none⟩) hg v1).setCell (p := ⟨g, 2, none⟩) hg v2).setCell (p := ⟨g, 3, none⟩) hg v3).setCell (p := ⟨g, 4, none⟩) hg v4).setCell (p := ⟨g, 5, none⟩) hg v5).setCell (p := ⟨g, 6, none⟩) hg v6
set_option maxRecDepth 100000 in
set_option maxHeartbeats 1600000 in
theorem rfind_any (P : List ByteArray) (L : List Pl) (A B : Option Addr) (c d : Nat) (name : ByteArray) (w : World) (h : RowA w w.heap.size 7 B (L.map plC)) (hl : L.length ≤ 1000000000) :
    Calls Try.prog 13 #[rixV P L A c B d, .string name] w fun e w' => e = .returned (.tuple #[plV ((kvGet (keyed L) name).getD noPl), .bool (kvGet (keyed L) name).isSome]) ∧ Below w.heap.size w w' := by
  have HH := Lib.hid h
  clear h
  unfold rixV
  go_enter Try.func13, Try.ntmps13
  have hb0 : Below w.heap.size w ((w.alloc (.cells #[.slice A P.length c, .slice B L.length d] 43)).alloc (.cells #[.string ⟨#[]⟩, .string ⟨#[]⟩, .int .i64 0, .int .u32 0, .int .i64 0, .int .i64 0, .int .i64 0] 50)) := ((Below.refl _ _).alloc (Nat.le_refl _) _).alloc (by simp) _
  have hk0 := (Blk.new w 43 #[.slice A P.length c, .slice B L.length d]).alloc (.cells #[.string ⟨#[]⟩, .string ⟨#[]⟩, .int .i64 0, .int .u32 0, .int .i64 0, .int .i64 0, .int .i64 0] 50)
  have hk1 := Blk.new (w.alloc (.cells #[.slice A P.length c, .slice B L.length d] 43)) 50 #[.string ⟨#[]⟩, .string ⟨#[]⟩, .int .i64 0, .int .u32 0, .int .i64 0, .int .i64 0, .int .i64 0]
  rw [World.size_alloc] at hk1
  have HB0 := Lib.hid hb0
  have HK1 := Lib.hid hk1
  clear hb0 hk0 hk1
  go_wp2
  go_loopw [11] (fun t wr => ∃ k : Nat, t = .int .i64 (k : Nat) ∧ k ≤ L.length ∧ (∀ p ∈ L.take k, p.head.name ≠ name) ∧ Blk wr (w.heap.size + 1) 50 #[.string ⟨#[]⟩, .string ⟨#[]⟩, .int .i64 0, .int .u32 0, .int .i64 0, .int .i64 0, .int .i64 0] ∧ Below w.heap.size w wr) (fun t _ => L.length - (intOf t).toNat)
  case atStart => exact ⟨0, rfl, Nat.zero_le _, by simp, HK1.out, HB0.out⟩
  case round =>
    obtain ⟨k, rfl, hk, hn, hkb, hb⟩ := hrel
    have HN := Lib.hid hn
    have HKB := Lib.hid hkb
    have HB := Lib.hid hb
    clear hn hb hkb
    by_cases hkl : k < L.length
    · have hek := List.getElem?_eq_getElem hkl
      obtain ⟨g, o, rfl, hgl, hcell⟩ := HH.out (by simp; omega)
      have hck := hcell k (plC L[k]) (by rw [List.getElem?_map, hek]; rfl)
      have HCK := Lib.hid fun (j : Nat) (u : Value) (hj : (plC L[k])[j]? = some u) => (HB.out.cell (p := ⟨g, o + k * 7 + j, none⟩) hgl).trans (hck j u hj)
      have hk0 : (0 : Int) ≤ (k : Int) := by omega
      have hk1 : (k : Int) < (L.length : Int) := by omega
      have hk3 : ((k : Int)).toNat = k := by omega
      have hne := txt_ne L[k].head.name name
      have HNA := Lib.hid fun h => kget_at (name := name) hkl h HN.out
      have HNT := Lib.hid fun (h : ¬ L[k].head.name = name) => show ∀ p ∈ L.take (k + 1), p.head.name ≠ name by
        rw [List.take_succ_eq_append_getElem hkl]
        intro p hp
        rcases List.mem_append.1 hp with e | e
        · exact HN.out p e
        · have : p = L[k] := by simpa using e
          rw [this]; exact h
      clear hcell hek hck
      generalize L[k] = x at *
      have q0 : wr.cell? ⟨g, o + k * 7, none⟩ = some (.string x.pack) := HCK.out 0 _ rfl
      have q1 : wr.cell? ⟨g, o + k * 7 + 1, none⟩ = some (.string x.head.name) := HCK.out 1 _ rfl
      have q2 : wr.cell? ⟨g, o + k * 7 + 2, none⟩ = some (.int .i64 x.head.method) := HCK.out 2 _ rfl
      have q3 : wr.cell? ⟨g, o + k * 7 + 3, none⟩ = some (.int .u32 x.head.crc) := HCK.out 3 _ rfl
      have q4 : wr.cell? ⟨g, o + k * 7 + 4, none⟩ = some (.int .i64 x.head.packed) := HCK.out 4 _ rfl
      have q5 : wr.cell? ⟨g, o + k * 7 + 5, none⟩ = some (.int .i64 x.head.size) := HCK.out 5 _ rfl
      have q6 : wr.cell? ⟨g, o + k * 7 + 6, none⟩ = some (.int .i64 x.head.at_) := HCK.out 6 _ rfl
      have hba : Below w.heap.size w (wr.alloc (.cells #[.string x.pack, .string x.head.name, .int .i64 x.head.method, .int .u32 x.head.crc, .int .i64 x.head.packed, .int .i64 x.head.size, .int .i64 x.head.at_] 50)) := HB.out.alloc HB.out.size _
      have hka := HKB.out.alloc (.cells #[.string x.pack, .string x.head.name, .int .i64 x.head.method, .int .u32 x.head.crc, .int .i64 x.head.packed, .int .i64 x.head.size, .int .i64 x.head.at_] 50)
      have hkx := Blk.new wr 50 #[.string x.pack, .string x.head.name, .int .i64 x.head.method, .int .u32 x.head.crc, .int .i64 x.head.packed, .int .i64 x.head.size, .int .i64 x.head.at_]
      have HKX := Lib.hid hkx
      have HKA := Lib.hid hka
      have HBA := Lib.hid hba
      clear hba hka hkx HCK
      by_cases hx : x.head.name = name
      · rw [decide_eq_true hx] at hne
        have HR := Lib.hid (HNA.out hx)
        have HL := Lib.hid HKB.out.lt
        clear hx
        go_upto_region 5 with fail
        clear q0 q1 q2 q3 q4 q5 q6
        generalize wr.alloc (.cells #[.string x.pack, .string x.head.name, .int .i64 x.head.method, .int .u32 x.head.crc, .int .i64 x.head.packed, .int .i64 x.head.size, .int .i64 x.head.at_] 50) = wa at *
        obtain ⟨⟨a0, a1, a2, a3, a4, a5, a6⟩, _⟩ := blk7 HKX.out
        obtain ⟨⟨b0, b1, b2, b3, b4, b5, b6⟩, ⟨f0, f1, f2, f3, f4, f5, f6⟩⟩ := blk7 HKA.out
        go_wp2
        refine bodyPost_ret (v := .tuple #[.agg #[.string x.pack, .string x.head.name, .int .i64 x.head.method, .int .u32 x.head.crc, .int .i64 x.head.packed, .int .i64 x.head.size, .int .i64 x.head.at_], .bool true]) (by simp [results, Try.results13, go_sem, b0, b1, b2, b3, b4, b5, b6]) rfl ⟨?_, ?_⟩
        · rw [HR.out]; rfl
        · exact below_set7 HBA.out (by omega) _ _ _ _ _ _ _
      · rw [decide_eq_false hx] at hne
        have HR := Lib.hid (HNT.out hx)
        clear hx
        go_wp2
        go_roundw
        case rel => exact ⟨k + 1, by go_num, by omega, HR.out, HKA.out, HBA.out⟩
        case measure => simp [intOf]; omega
    · have hek : k = L.length := by omega
      have HR := Lib.hid (kget_no (L := L) (name := name) (by
        have hn := HN.out
        rwa [hek, List.take_length] at hn))
      obtain ⟨⟨b0, b1, b2, b3, b4, b5, b6⟩, ⟨f0, f1, f2, f3, f4, f5, f6⟩⟩ := blk7 HKB.out
      go_wp2
      refine bodyPost_ret (v := .tuple #[.agg #[.string ⟨#[]⟩, .string ⟨#[]⟩, .int .i64 0, .int .u32 0, .int .i64 0, .int .i64 0, .int .i64 0], .bool false]) (by simp [results, Try.results13, go_sem, b0, b1, b2, b3, b4, b5, b6]) rfl ⟨?_, ?_⟩
      · rw [HR.out]; rfl
      · exact below_set7 HB.out (by omega) _ _ _ _ _ _ _
end Go.Proofs.Ytopmanmjggcfaaa
