/- The disk's Spoil. -/
import Derived.Test.YtjdkhainlcalbaaDi
import Derived.Deep.RegionWith
namespace Go.Proofs.Ytjdkhainlcalbaa
open Go.RowKit Go.Maps

/-- a byte of a text is another one -/
def spoilB (d : ByteArray) (k : Nat) (c : UInt8) : ByteArray := d.extract 0 k ++ strL' c ++ d.extract (k + 1) d.size
where strL' (c : UInt8) : ByteArray := ⟨#[c]⟩
theorem spoilB_size (d : ByteArray) (k : Nat) (c : UInt8) (h : k < d.size) : (spoilB d k c).size = d.size := by
  unfold spoilB
  rw [ByteArray.size_append, ByteArray.size_append, ByteArray.size_extract, ByteArray.size_extract]
  show _ + 1 + _ = _
  omega
def Dk.spoil (D : Dk) (name : ByteArray) (k : Int) (c : UInt8) : Dk × Int :=
  match kvGet D.folder name with
  | none => (D, 7)
  | some i => if k < 0 ∨ ((D.flAt i).data.size : Int) ≤ k then (D, 1) else ({ D with files := D.files.set i ⟨spoilB (D.flAt i).data k.toNat c, (D.flAt i).safe⟩ }, 0)

theorem byte_string (w : World) (c : UInt8) :
    (convert 61 9 (.slice (some ⟨w.heap.size, 0, none⟩) 1 1)).run Try.prog (w.alloc (.cells #[.int .u8 (c.toNat : Int)] 5)) = .ok (.string (spoilB.strL' c)) (w.alloc (.cells #[.int .u8 (c.toNat : Int)] 5)) := by
  refine run_convert_own 61 9 5 Try.underlying61 Try.underlying5 Try.underlying9 (base := w.heap.size) (n := 1) (l := [c]) ?_
  exact World.ownsRow_lit (base := w.heap.size) (size := 1) (e := 5) w #[.int .u8 (c.toNat : Int)] 1 (Nat.le_refl _) (by decide) rfl

theorem byte_string2 (w : World) (c : UInt8) :
    (convert 61 9 (.slice (some ⟨w.heap.size, 0, none⟩) 1 1)).run Try.prog (w.alloc (.cells #[.int .u8 (c.toNat : Int)] 5)).drew = .ok (.string (spoilB.strL' c)) (w.alloc (.cells #[.int .u8 (c.toNat : Int)] 5)).drew := by
  refine run_convert_own 61 9 5 Try.underlying61 Try.underlying5 Try.underlying9 (base := w.heap.size) (n := 1) (l := [c]) ?_
  exact (World.ownsRow_lit (base := w.heap.size) (size := 1) (e := 5) w #[.int .u8 (c.toNat : Int)] 1 (Nat.le_refl _) (by decide) rfl).drew

theorem spoil_blk {w : World} {bc : Nat} {data new : ByteArray} {safe : Nat} (h : BlockIs w bc (flCells ⟨data, safe⟩) 118) (_hb : bc < w.heap.size) (n : Nat) (o : Obj) :
    BlockIs (((w.setCell ⟨bc, 0, none⟩ (.string new)).alloc o).drewN n) bc (flCells ⟨new, safe⟩) 118 ∧ Touch (· = bc) w (((w.setCell ⟨bc, 0, none⟩ (.string new)).alloc o).drewN n) := by
  have h1 : BlockIs (w.setCell ⟨bc, 0, none⟩ (.string new)) bc (flCells ⟨new, safe⟩) 118 := h.set 0 _
  have ht := Touch.setc w bc 0 (.string new)
  have hb : Below (w.setCell ⟨bc, 0, none⟩ (.string new)).heap.size (w.setCell ⟨bc, 0, none⟩ (.string new)) ((w.setCell ⟨bc, 0, none⟩ (.string new)).alloc o) := (Below.refl _ _).alloc (Nat.le_refl _) o
  exact ⟨(h1.keep (hb.block bc h1.lt)).drewN n, ht.trans ((Touch.of_below (fun _ => False) hb).trans (Touch.of_below (fun _ => False) (below_drewN _ n)) (fun _ _ h => h)) (fun _ _ h => h.elim)⟩

set_option maxRecDepth 100000 in
set_option maxHeartbeats 12800000 in
theorem spoil_any (b : Nat) (D : Dk) (L : Lay) (name : ByteArray) (k : Int) (c : UInt8) (w : World) (h : DiskAt w b D L) (hs : name.size ≤ 9223372036854775807) :
    Calls Try.prog 76 #[.pointer (some ⟨b, 0, none⟩), .string name, .int .i64 k, .int .u8 c.toNat] w fun e w' => e = .returned (.int .i64 (D.spoil name k c).2) ∧ DkPost b L (D.spoil name k c).1 w w' := by
  have hsz := ba_len hs
  have hz0 := fun w => zero_ptr w
  have c1 : w.cell? ⟨b, 1, none⟩ = some (.map (some L.bm)) := h.blk.cell 1
  have hmp := h.mp
  have hsame : DkPost b L D w w := dkSame h (Touch.refl _ _)
  cases hg : kvGet D.folder name with
  | none =>
    have hget := kvGet_none (L := L) hg
    have e : D.spoil name k c = (D, 7) := by unfold Dk.spoil; rw [hg]
    rw [e]
    have HS := Lib.hid hsame
    clear e hg h hsame
    go_enter Try.func76, Try.ntmps76
    go_wp2_with (first
      | (at_lookup; refine wpList_kvNone rfl _ _ 111 rfl Try.underlying9 Try.underlying111 (hz0 _) rfl hmp rfl hsz hget ?_)
      | go_in)
    go_ret
    exact ⟨rfl, HS.out⟩
  | some i =>
    obtain ⟨hi, hget⟩ := kvGet_found h hg
    have hblk := h.fs i hi
    have hle := flAt_le h.ok i
    have d0 : w.cell? ⟨L.bs.getD i 0, 0, none⟩ = some (.string (D.flAt i).data) := hblk.cell 0
    have f0 : w.frozen? ⟨L.bs.getD i 0, 0, none⟩ = false := hblk.free 0
    by_cases hk : k < 0 ∨ ((D.flAt i).data.size : Int) ≤ k
    · have e : D.spoil name k c = (D, 1) := by unfold Dk.spoil; rw [hg]; exact if_pos hk
      rw [e]
      have HS := Lib.hid hsame
      clear e hg h hsame hblk
      unfold fileV ptrV at hget
      generalize L.bs.getD i 0 = bc at *
      generalize D.flAt i = fl at *
      obtain ⟨data, safe⟩ := fl
      simp only at d0 hk hle
      rcases hk with hk | hk
      · go_enter Try.func76, Try.ntmps76
        go_wp2_with (first
          | (at_lookup; refine wpList_kvFound rfl _ _ 111 rfl Try.underlying9 Try.underlying111 (hz0 _) rfl hmp rfl hsz hget ?_)
          | go_in)
        go_ret
        exact ⟨rfl, HS.out⟩
      · have hk0 : 0 ≤ k := by omega
        go_enter Try.func76, Try.ntmps76
        go_wp2_with (first
          | (at_lookup; refine wpList_kvFound rfl _ _ 111 rfl Try.underlying9 Try.underlying111 (hz0 _) rfl hmp rfl hsz hget ?_)
          | go_in)
        go_ret
        exact ⟨rfl, HS.out⟩
    · obtain ⟨k, rfl⟩ : ∃ j : Nat, k = j := ⟨k.toNat, by omega⟩
      have hkl : k < (D.flAt i).data.size := by omega
      have e : D.spoil name k c = ({ D with files := D.files.set i ⟨spoilB (D.flAt i).data k c, (D.flAt i).safe⟩ }, 0) := by unfold Dk.spoil; rw [hg]; exact if_neg hk
      rw [e]
      have hz2 := spoilB_size (D.flAt i).data k c hkl
      have hfin : ∀ w', BlockIs w' (L.bs.getD i 0) (flCells ⟨spoilB (D.flAt i).data k c, (D.flAt i).safe⟩) 118 → Touch (· = L.bs.getD i 0) w w' → DkPost b L { D with files := D.files.set i ⟨spoilB (D.flAt i).data k c, (D.flAt i).safe⟩ } w w' := fun w' h1 ht =>
        ⟨L, h.setFile hi _ (by rw [hz2]; exact hle) h1 ht, ht.mono (fun k _ hk => by subst hk; exact bs_foot (by rw [h.len]; exact hi)), fun k hk => Or.inl hk⟩
      have HF := Lib.hid hfin
      have HB := Lib.hid hblk
      clear e hg h hsame hblk hfin hk
      unfold fileV ptrV at hget
      generalize L.bs.getD i 0 = bc at *
      generalize D.flAt i = fl at *
      obtain ⟨data, safe⟩ := fl
      simp only at d0 hkl hle
      have hbc := HB.out.lt
      have hk0 : (0 : Int) ≤ (k : Int) := by omega
      have hk1 : (k : Int) < (data.size : Int) := by omega
      have hk2 : (0 : Int) ≤ (k : Int) + 1 := by omega
      have hk3 : (k : Int) + 1 ≤ (data.size : Int) := by omega
      have hx1 : (data.extract 0 k).size ≤ 1073741824 := by rw [ByteArray.size_extract]; omega
      have hx2 : (data.extract (k + 1) data.size).size ≤ 1073741824 := by rw [ByteArray.size_extract]; omega
      have hx3 : (spoilB.strL' c).size ≤ 1 := Nat.le_refl _
      have hk4 : (k : Int) ≤ (data.size : Int) := by omega
      have hcv : (convert 61 9 (.slice (some ⟨w.heap.size, 0, none⟩) 1 1)).run Try.prog (w.alloc (.cells #[.int .u8 (c.toNat : Int)] 5)).drew = .ok (.string (spoilB.strL' c)) (w.alloc (.cells #[.int .u8 (c.toNat : Int)] 5)).drew := byte_string2 w c
      go_enter Try.func76, Try.ntmps76
      go_wp2_with (first
          | (at_lookup; refine wpList_kvFound rfl _ _ 111 rfl Try.underlying9 Try.underlying111 (hz0 _) rfl hmp rfl hsz hget ?_)
          | go_in)
      have hw1 : IntKind.i64.wrap ((k : Int) + 1) = (k : Int) + 1 := IntWalk.i64_in _ (by omega)
      have hw2 : ((k : Int) + 1).toNat = k + 1 := by omega
      go_region_with (fail)
      all_goals
        go_wp2
        go_ret
        refine ⟨rfl, ?_⟩
        first
          | exact HF.out _ (spoil_blk HB.out hbc _ _).1 (spoil_blk HB.out hbc _ _).2
          | (trace_state; sorry)
end Go.Proofs.Ytjdkhainlcalbaa
