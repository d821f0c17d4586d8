/- The index's laws: few. -/
import Derived.Test.YtopmanmjggcfaaaJg
import Derived.Lib.SlBytesConst
namespace Go.Proofs.Ytopmanmjggcfaaa
open Go.RowKit

theorem infoHd : (Try.prog.info? 32).map (fun i => (i.zero, i.size, i.bytes)) = some (some (.agg #[.string ⟨#[]⟩, .int .i64 0, .int .u32 0, .int .i64 0, .int .i64 0, .int .i64 0]), 6, 56) := by kernel_rfl
/-- the digits of a name that is made: of the first k bytes of s, so far -/
def nmL (s : ByteArray) (k : Nat) : List UInt8 := (List.range 64).map fun i => UInt8.ofNat (digN (if i < k ∧ i < s.size then (s.data.toList.getD i 0).toNat % 16 else i % 16))
def nm16 (s : ByteArray) : ByteArray := bs (nmL s 64)
def lowN (m : Int) : Int := bits .and .i64 m 65535
def fewH (h : Hd) : Hd := ⟨nm16 h.name, lowN h.method, h.crc, lowN h.packed, lowN h.size, lowN h.at_⟩
def fewHs (l : List Hd) : List Hd := (l.take 12).map fewH
theorem nmL_len (s : ByteArray) (k : Nat) : (nmL s k).length = 64 := by unfold nmL; simp
theorem hdsC_snoc (l : List Hd) (h : Hd) : hdsC (l ++ [h]) = hdsC l ++ hdC h := by unfold hdsC; simp
/-- a name that is being made, in its row -/
def NmB (w : World) (g : Nat) (l : List UInt8) : Prop := w.heap[g]? = some (.cells (bytesV l).toArray 5 (64, 65))
theorem NmB.lt {w : World} {g : Nat} {l : List UInt8} (h : NmB w g l) : g < w.heap.size := by
  rcases Nat.lt_or_ge g w.heap.size with hlt | hge
  · exact hlt
  · unfold NmB at h; rw [Array.getElem?_eq_none hge] at h; cases h
theorem NmB.cell {w : World} {g : Nat} {l : List UInt8} (h : NmB w g l) {i : Nat} {c : UInt8} (hi : l[i]? = some c) : w.cell? ⟨g, i, none⟩ = some (.int .u8 c.toNat) := by
  rw [cell_of_row w g i _ _ _ h]
  simp [bytesV, hi]
theorem NmB.frozen {w : World} {g : Nat} {l : List UInt8} (h : NmB w g l) {i : Nat} (hi : i < 64) : w.frozen? ⟨g, i, none⟩ = false := by
  unfold NmB at h
  simp [World.frozen?, h]
  omega
theorem NmB.new (w : World) (l : List UInt8) : NmB (w.alloc (.cells (bytesV l).toArray 5 (64, 65))) w.heap.size l := heap_alloc_new w _
theorem NmB.set_ {w : World} {g : Nat} {l : List UInt8} (h : NmB w g l) (i : Nat) (c : UInt8) : NmB (w.setCell ⟨g, i, none⟩ (.int .u8 c.toNat)) g (l.set i c) := by
  unfold NmB at h ⊢
  simp [World.setCell, Array.getElem?_modify, h, bytesV, List.map_set]
theorem NmB.below {w w' : World} {B g : Nat} {l : List UInt8} (h : NmB w g l) (hb : Below B w w') (hg : g < B) : NmB w' g l := (hb.block g hg).trans h
theorem NmB.far {w : World} {g : Nat} {l : List UInt8} (h : NmB w g l) {p : Addr} (hp : g ≠ p.block) (u : Value) : NmB (w.setCell p u) g l := (Below.heap_setCell w p u g hp).trans h
def nm0V : List Value := (List.range 64).map fun i => .int .u8 (digN (i % 16))
theorem nmL_zero (s : ByteArray) : bytesV (nmL s 0) = nm0V := by
  unfold nmL bytesV nm0V
  rw [List.map_map]
  refine List.map_congr_left fun i _ => ?_
  simp only [Function.comp_apply, Nat.not_lt_zero, false_and, if_false]
  congr 1
  have h : digN (i % 16) < 256 := by unfold digN; split <;> omega
  simp [UInt8.toNat_ofNat', Nat.mod_eq_of_lt h]
theorem hex_at (c : UInt8) (h : c.toNat % 16 < (⟨#[48, 49, 50, 51, 52, 53, 54, 55, 56, 57, 97, 98, 99, 100, 101, 102]⟩ : ByteArray).size) : (⟨#[48, 49, 50, 51, 52, 53, 54, 55, 56, 57, 97, 98, 99, 100, 101, 102]⟩ : ByteArray)[c.toNat % 16] = UInt8.ofNat (digN (c.toNat % 16)) := by
  have key : ∀ n : Nat, (hn : n < 16) → (⟨#[48, 49, 50, 51, 52, 53, 54, 55, 56, 57, 97, 98, 99, 100, 101, 102]⟩ : ByteArray)[n]'hn = UInt8.ofNat (digN n) := by decide
  exact key _ (by omega)
theorem nmL_get (s : ByteArray) (k i : Nat) (hi : i < (nmL s k).length) : (nmL s k)[i] = UInt8.ofNat (digN (if i < k ∧ i < s.size then (s.data.toList.getD i 0).toNat % 16 else i % 16)) := by
  have h : (nmL s k)[i]? = some (UInt8.ofNat (digN (if i < k ∧ i < s.size then (s.data.toList.getD i 0).toNat % 16 else i % 16))) := by
    unfold nmL
    rw [List.getElem?_map, List.getElem?_range (by rw [nmL_len] at hi; exact hi)]
    rfl
  rw [List.getElem?_eq_getElem hi] at h
  exact Option.some.inj h
theorem nmL_set {s : ByteArray} {j : Nat} (hs : j < s.size) (_h : j < 64) : (nmL s j).set j (UInt8.ofNat (digN (s[j].toNat % 16))) = nmL s (j + 1) := by
  apply List.ext_getElem
  · simp [nmL_len]
  · intro i h1 h2
    rw [List.getElem_set, nmL_get, nmL_get]
    by_cases e : j = i
    · subst e
      rw [if_pos rfl, if_pos ⟨by omega, hs⟩]
      have : s.data.toList.getD j 0 = s[j] := by
        rw [List.getD_eq_getElem?_getD, List.getElem?_eq_getElem (by rw [ba_len]; exact hs)]
        rfl
      rw [this]
    · rw [if_neg e]
      have : (i < j ∧ i < s.size) ↔ (i < j + 1 ∧ i < s.size) := by omega
      simp only [this]
theorem nmL_end {s : ByteArray} {j : Nat} (h : ¬ (j < s.size ∧ j < 64)) : nmL s j = nmL s 64 := by
  unfold nmL
  refine List.map_congr_left fun i hi => ?_
  have hi' : i < 64 := List.mem_range.1 hi
  have : (i < j ∧ i < s.size) ↔ (i < 64 ∧ i < s.size) := by omega
  simp only [this]
set_option maxRecDepth 100000 in
set_option maxHeartbeats 3200000 in
theorem fews_any (l : List Hd) (A : Option Addr) (c : Nat) (w : World) (hr : RowA w w.heap.size 6 A (l.map hdC)) (hl : l.length ≤ 9223372036854775807) :
    Calls Try.prog 7 #[.slice A l.length c] w fun e w' => ∃ v, e = .returned v ∧ w'.ownsRow w.heap.size 32 6 v (fewHs l).length (hdsC (fewHs l)) ∧ Below w.heap.size w w' := by
  have HR := Lib.hid hr
  clear hr
  have HOW := Lib.hid (show (w.alloc (.cells #[] 32)).ownsRow w.heap.size 32 6 (.slice (some ⟨w.heap.size, 0, none⟩) 0 0) 0 [] from
    World.ownsRow_lit (e := 32) (size := 6) (base := w.heap.size) w #[] 0 (Nat.le_refl _) (by decide) rfl)
  have HBW := Lib.hid ((Below.refl w.heap.size w).alloc (Nat.le_refl _) (.cells #[] 32))
  go_enter Try.func7, Try.ntmps7
  go_wp2
  go_loopw [3, 4] (fun v i wr => ∃ (k : Nat) (A9 : Option Addr) (c9 : Nat), v = .slice A9 k c9 ∧ i = .int .i64 (k : Nat) ∧ k ≤ l.length ∧ k ≤ 12 ∧ wr.ownsRow w.heap.size 32 6 (.slice A9 k c9) k (hdsC ((l.take k).map fewH)) ∧ Below w.heap.size w wr) (fun _ i _ => 12 - (intOf i).toNat)
  case atStart => exact ⟨0, some ⟨w.heap.size, 0, none⟩, 0, rfl, rfl, Nat.zero_le _, Nat.zero_le _, HOW.out, HBW.out⟩
  case round =>
    obtain ⟨k, A9, c9, rfl, rfl, hk, hk12, hown, hb⟩ := hrel
    have HO := Lib.hid hown
    have HB := Lib.hid hb
    clear hown hb HOW HBW
    by_cases hgo : k < l.length ∧ k < 12
    · obtain ⟨hkl, hkm⟩ := hgo
      have hek := List.getElem?_eq_getElem hkl
      obtain ⟨g, o, rfl, hgl, hcell⟩ := HR.out (by rw [List.length_map]; omega)
      have hck := hcell k (hdC l[k]) (by rw [List.getElem?_map, hek]; rfl)
      have HCK := Lib.hid fun (j : Nat) (u : Value) (hj : (hdC l[k])[j]? = some u) => (HB.out.cell (p := ⟨g, o + k * 6 + j, none⟩) hgl).trans (hck j u hj)
      have HTK := Lib.hid (show (l.take (k + 1)).map fewH = (l.take k).map fewH ++ [fewH l[k]] by rw [List.take_succ_eq_append_getElem hkl, List.map_append]; rfl)
      clear hcell hck hek
      generalize l[k] = hd at *
      have q0 : wr.cell? ⟨g, o + k * 6, none⟩ = some (.string hd.name) := HCK.out 0 _ rfl
      have q1 : wr.cell? ⟨g, o + k * 6 + 1, none⟩ = some (.int .i64 hd.method) := HCK.out 1 _ rfl
      have q2 : wr.cell? ⟨g, o + k * 6 + 2, none⟩ = some (.int .u32 hd.crc) := HCK.out 2 _ rfl
      have q3 : wr.cell? ⟨g, o + k * 6 + 3, none⟩ = some (.int .i64 hd.packed) := HCK.out 3 _ rfl
      have q4 : wr.cell? ⟨g, o + k * 6 + 4, none⟩ = some (.int .i64 hd.size) := HCK.out 4 _ rfl
      have q5 : wr.cell? ⟨g, o + k * 6 + 5, none⟩ = some (.int .i64 hd.at_) := HCK.out 5 _ rfl
      have hk0 : (0 : Int) ≤ (k : Int) := by omega
      have hk1 : (k : Int) < (l.length : Int) := by omega
      have hk2 : (k : Int) < 12 := by omega
      have hk3 : ((k : Int)).toNat = k := by omega
      clear HCK
      go_upto_region 6 with fail
      have hba : Below wr.heap.size wr (wr.alloc (.cells #[.string hd.name, .int .i64 hd.method, .int .u32 hd.crc, .int .i64 hd.packed, .int .i64 hd.size, .int .i64 hd.at_] 32)) := (Below.refl _ _).alloc (Nat.le_refl _) _
      have HKA := Lib.hid (Blk.new wr 32 #[.string hd.name, .int .i64 hd.method, .int .u32 hd.crc, .int .i64 hd.packed, .int .i64 hd.size, .int .i64 hd.at_])
      have HOA := Lib.hid (HO.out.alloc (.cells #[.string hd.name, .int .i64 hd.method, .int .u32 hd.crc, .int .i64 hd.packed, .int .i64 hd.size, .int .i64 hd.at_] 32))
      have HBA := Lib.hid (HB.out.trans (hba.mono HB.out.size))
      clear hba q0 q1 q2 q3 q4 q5 hk0 hk1 hk3 HO HB
      generalize wr.alloc (.cells #[.string hd.name, .int .i64 hd.method, .int .u32 hd.crc, .int .i64 hd.packed, .int .i64 hd.size, .int .i64 hd.at_] 32) = wa at *
      have kc := fun (C : Array Value) (n c : Nat) => Lib.run_convert_bytes_const (P := Try.prog) wa 64 5 C n c Try.underlying64 Try.underlying5
      have hgh : wr.heap.size < wa.heap.size := HKA.out.lt
      go_upto_region 7 with fail
      have hlit : (#[.int .u8 48, .int .u8 49, .int .u8 50, .int .u8 51, .int .u8 52, .int .u8 53, .int .u8 54, .int .u8 55, .int .u8 56, .int .u8 57, .int .u8 97, .int .u8 98, .int .u8 99, .int .u8 100, .int .u8 101, .int .u8 102, .int .u8 48, .int .u8 49, .int .u8 50, .int .u8 51, .int .u8 52, .int .u8 53, .int .u8 54, .int .u8 55, .int .u8 56, .int .u8 57, .int .u8 97, .int .u8 98, .int .u8 99, .int .u8 100, .int .u8 101, .int .u8 102, .int .u8 48, .int .u8 49, .int .u8 50, .int .u8 51, .int .u8 52, .int .u8 53, .int .u8 54, .int .u8 55, .int .u8 56, .int .u8 57, .int .u8 97, .int .u8 98, .int .u8 99, .int .u8 100, .int .u8 101, .int .u8 102, .int .u8 48, .int .u8 49, .int .u8 50, .int .u8 51, .int .u8 52, .int .u8 53, .int .u8 54, .int .u8 55, .int .u8 56, .int .u8 57, .int .u8 97, .int .u8 98, .int .u8 99, .int .u8 100, .int .u8 101, .int .u8 102] : Array Value) = (bytesV (nmL hd.name 0)).toArray := by rw [nmL_zero]; rfl
      rw [hlit]
      have HN0 := Lib.hid (NmB.new wa (nmL hd.name 0))
      have HKB := Lib.hid (HKA.out.alloc (.cells (bytesV (nmL hd.name 0)).toArray 5 (64, 65)))
      have HOB := Lib.hid (HOA.out.alloc (.cells (bytesV (nmL hd.name 0)).toArray 5 (64, 65)))
      have HBB := Lib.hid (HBA.out.alloc HBA.out.size (.cells (bytesV (nmL hd.name 0)).toArray 5 (64, 65)))
      have HL9 := Lib.hid fun j (h : (Value.slice A9 k c9).ownBlock = some j) => (HOA.out.lt j h).2
      have HLA := Lib.hid fun j (h : (Value.slice A9 k c9).ownBlock = some j) => (HOA.out.lt j h).1
      have hwl : w.heap.size ≤ wa.heap.size := HBA.out.size
      clear kc hlit HKA HOA HBA
      generalize wa.alloc (.cells (bytesV (nmL hd.name 0)).toArray 5 (64, 65)) = wb at *
      obtain ⟨wq, rfl⟩ : ∃ wq : World, wq = wr := ⟨_, rfl⟩
      go_wp2
      go_loopw [7] (fun i wi => ∃ (j : Nat), i = .int .i64 (j : Nat) ∧ j ≤ 64 ∧ j ≤ hd.name.size ∧ NmB wi wa.heap.size (nmL hd.name j) ∧ Blk wi wq.heap.size 32 #[.string hd.name, .int .i64 hd.method, .int .u32 hd.crc, .int .i64 hd.packed, .int .i64 hd.size, .int .i64 hd.at_] ∧ wi.ownsRow w.heap.size 32 6 (.slice A9 k c9) k (hdsC ((l.take k).map fewH)) ∧ Below w.heap.size w wi) (fun i _ => 64 - (intOf i).toNat)
      case atStart => exact ⟨0, rfl, Nat.zero_le _, Nat.zero_le _, HN0.out, HKB.out, HOB.out, HBB.out⟩
      case round =>
        obtain ⟨j, rfl, hj, hjs, hnb, hkb, hob, hbb⟩ := hrel
        have HN1 := Lib.hid hnb
        have HK1 := Lib.hid hkb
        have HO1 := Lib.hid hob
        have HB1 := Lib.hid hbb
        have h0 : wr.cell? ⟨wq.heap.size, 0, none⟩ = some (.string hd.name) := hkb.cell 0
        clear hnb hkb hob hbb HN0 HKB HOB HBB
        by_cases hgo : j < hd.name.size ∧ j < 64
        · obtain ⟨hjl, hj6⟩ := hgo
          have n0 : wr.cell? ⟨wa.heap.size, j, none⟩ = some (.int .u8 (((nmL hd.name j)[j]'(by rw [nmL_len]; exact hj6)).toNat : Int)) := HN1.out.cell (List.getElem?_eq_getElem (by rw [nmL_len]; exact hj6))
          have nf : wr.frozen? ⟨wa.heap.size, j, none⟩ = false := HN1.out.frozen hj6
          have hb1 : (0 : Int) ≤ (hd.name[j].toNat : Int) := by omega
          have hb2 : (hd.name[j].toNat : Int) < 256 := by have := UInt8.toNat_lt hd.name[j]; omega
          have hj0 : (0 : Int) ≤ (j : Int) := by omega
          have hj1 : (j : Int) < (hd.name.size : Int) := by omega
          have hj2 : (j : Int) < 64 := by omega
          have hj3 : ((j : Int)).toNat = j := by omega
          go_wp2
          have hx := hex_at hd.name[j] (by show hd.name[j].toNat % 16 < 16; omega)
          rw [hx]
          go_roundw
          case rel => exact ⟨j + 1, by go_num, by omega, by omega, by rw [← nmL_set hjl hj6]; exact HN1.out.set_ j _, HK1.out.far (by show wq.heap.size ≠ wa.heap.size; omega) _, own_at HO1.out (fun i hi => Below.heap_setCell _ _ _ _ (by have := HL9.out i hi; show i ≠ wa.heap.size; omega)), HB1.out.setCell (p := ⟨wa.heap.size, j, none⟩) hwl _⟩
          case measure => simp [intOf]; omega
        · have hjc : ¬ (j : Int) < (hd.name.size : Int) ∨ ((j : Int) < (hd.name.size : Int) ∧ ¬ (j : Int) < 64) := by omega
          have HNE := Lib.hid (show nmL hd.name j = nmL hd.name 64 from nmL_end hgo)
          clear hgo
          have hcv : (convert 64 9 (.slice (some ⟨wa.heap.size, 0, none⟩) 64 64)).run Try.prog wr = .ok (.string (nm16 hd.name)) wr := by
            have := run_convert_bytes_back wr 64 9 5 ⟨wa.heap.size, 0, none⟩ 64 (nmL hd.name 64) Try.underlying64 Try.underlying5 Try.underlying9 (fun i hi => by
              have h1 := HN1.out
              rw [HNE.out] at h1
              rw [addr_add, Nat.zero_add]
              exact h1.cell (List.getElem?_eq_getElem hi))
            rw [nmL_len] at this
            exact this
          have h1 : wr.cell? ⟨wq.heap.size, 1, none⟩ = some (.int .i64 hd.method) := HK1.out.cell 1
          have h2 : wr.cell? ⟨wq.heap.size, 2, none⟩ = some (.int .u32 hd.crc) := HK1.out.cell 2
          have h3 : wr.cell? ⟨wq.heap.size, 3, none⟩ = some (.int .i64 hd.packed) := HK1.out.cell 3
          have h4 : wr.cell? ⟨wq.heap.size, 4, none⟩ = some (.int .i64 hd.size) := HK1.out.cell 4
          have h5 : wr.cell? ⟨wq.heap.size, 5, none⟩ = some (.int .i64 hd.at_) := HK1.out.cell 5
          rcases hjc with hjc | ⟨hjc, hjc2⟩
          all_goals
            go_wp2_with (at_builtin; refine wpList_app1 rfl _ _ 22 rfl w.heap.size 32 Try.underlying22 infoHd rfl (by decide) _ k (hdsC ((l.take k).map fewH)) rfl HO1.out _ rfl rfl (by simp [Value.oneCell']) (by omega) (by omega) HB1.out.size ?_)
            intro g9 cap9 w9 ho9 hg9 hb9 hl9
            have HO9 := Lib.hid (show w9.ownsRow w.heap.size 32 6 (.slice (some ⟨g9, 0, none⟩) (k + 1) cap9) (k + 1) (hdsC ((l.take (k + 1)).map fewH)) by rw [HTK.out, hdsC_snoc]; simpa [hdC, fewH, lowN] using ho9)
            have HB9 := Lib.hid (HB1.out.trans hb9)
            clear ho9 hg9 hb9 hl9 hcv h0 h1 h2 h3 h4 h5
            go_wp2
            go_roundw
            case rel => exact ⟨k + 1, some ⟨g9, 0, none⟩, cap9, by go_num, by go_num, by omega, by omega, HO9.out, HB9.out⟩
            case measure => simp [intOf]; omega
    · have hkc : ¬ (k : Int) < (l.length : Int) ∨ ((k : Int) < (l.length : Int) ∧ ¬ (k : Int) < 12) := by omega
      have HF := Lib.hid (show (l.take k).map fewH = fewHs l ∧ k = (fewHs l).length by
        have h1 : l.take k = l.take 12 := by
          rcases hkc with h | ⟨_, h⟩
          · rw [List.take_of_length_le (by omega), List.take_of_length_le (by omega)]
          · have : k = 12 := by omega
            rw [this]
        unfold fewHs
        rw [h1]
        refine ⟨rfl, ?_⟩
        rw [List.length_map, List.length_take]
        omega)
      clear hgo
      rcases hkc with hkc | ⟨hkc, hkc2⟩
      all_goals
        go_wp2
        go_ret
        exact ⟨_, rfl, by have := HO.out; rw [HF.out.1] at this; rw [← HF.out.2]; exact this, HB.out⟩
end Go.Proofs.Ytopmanmjggcfaaa
