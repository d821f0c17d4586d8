/- The disk's list of names. -/
import Derived.Test.YtjdkhainlcalbaaSk
namespace Go.Proofs.Ytjdkhainlcalbaa
open Go.RowKit Go.Maps

set_option maxHeartbeats 400000 in
set_option maxRecDepth 100000 in
theorem list_dead (b : Nat) (D : Dk) (L : Lay) (w : World) (h : DiskAt w b D L) (hd : D.dead = true) :
    Calls Try.prog 49 #[.pointer (some ⟨b, 0, none⟩)] w fun e w' => e = .returned (.tuple #[.slice none 0 0, .int .i64 10]) ∧ w = w' := by
  have c5 : w.cell? ⟨b, 5, none⟩ = some (.bool D.dead) := h.blk.cell 5
  rw [hd] at c5
  clear h hd
  go_enter Try.func49, Try.ntmps49
  go_wp2
  go_ret2
  exact ⟨rfl, rfl⟩

set_option maxHeartbeats 400000 in
set_option maxRecDepth 100000 in
theorem list_any (b : Nat) (D : Dk) (L : Lay) (w : World) (h : DiskAt w b D L) (hd : D.dead = false) (hl : D.folder.length ≤ 1000000) :
    Calls Try.prog 49 #[.pointer (some ⟨b, 0, none⟩)] w fun e w' => ∃ v, e = .returned (.tuple #[v, .int .i64 0]) ∧ w'.ownsRow w.heap.size 9 1 v (kvNames D.folder).length ((kvNames D.folder).map .string) ∧ Below w.heap.size w w' := by
  have c5 : w.cell? ⟨b, 5, none⟩ = some (.bool D.dead) := h.blk.cell 5
  have c1 : w.cell? ⟨b, 1, none⟩ = some (.map (some L.bm)) := h.blk.cell 1
  rw [hd] at c5
  have HK := Lib.hid (keys_any L.bm w)
  have HS := Lib.hid (sorted_any L.bm _ w h.mp (by rw [kvMap_len]; exact hl))
  rw [kvNames_map] at HS
  clear h hd
  go_enter Try.func49, Try.ntmps49
  go_wp2_with fail
  refine HK.out.mono ?_
  rintro e w1 ⟨rfl, rfl⟩
  go_wp2_with fail
  refine HS.out.mono ?_
  rintro e w2 ⟨v, rfl, ho, hb⟩
  have HO := Lib.hid ho
  have HB := Lib.hid (((Below.refl w.heap.size w).alloc (Nat.le_refl _) (.cells #[.map (some L.bm)] 111)).trans hb)
  clear ho hb
  go_wp2
  go_ret2
  exact ⟨v, rfl, HO.out, HB.out⟩
end Go.Proofs.Ytjdkhainlcalbaa
