/- Lookups in a map with string keys, as equations on a run. -/
import Derived.Test.YtopmanmjggcfaaaKr
namespace Go.Proofs.Ytopmanmjggcfaaa
open Go.RowKit Go.Maps

section
variable {P : Program} {w : World} {t k e : TypeId} {b : Nat} {l : List (ByteArray × Value)} {s : ByteArray} {z v : Value}
theorem run_kvFound (hk : P.underlying k = some .string) (ht : P.underlying t = some (.map k e)) (hz : (zeroValue e).run P w = .ok z w) (hown : ownsKV w P k b l) (hs : s.size ≤ maxLen) (hv : kvGet l s = some v) :
    (Instr.lookup t (.map (some b)) (.string s) true).run P w = .ok (.tuple #[v, .bool true]) w := by
  obtain ⟨u, ps, hr, hu⟩ := World.ownsMap.look_ok hown (string_keyed hk) ht hz (zd := .held z) (zp := []) rfl (WideMaps.keyOf_string_mk hk hs)
  rw [toD_at, hv] at hu
  rw [hr, toD_has, hv]
  simp [heldR] at hu
  rw [hu.1]
  rfl
theorem run_kvNone (hk : P.underlying k = some .string) (ht : P.underlying t = some (.map k e)) (hz : (zeroValue e).run P w = .ok z w) (hown : ownsKV w P k b l) (hs : s.size ≤ maxLen) (hv : kvGet l s = none) :
    (Instr.lookup t (.map (some b)) (.string s) true).run P w = .ok (.tuple #[z, .bool false]) w := by
  obtain ⟨u, ps, hr, hu⟩ := World.ownsMap.look_ok hown (string_keyed hk) ht hz (zd := .held z) (zp := []) rfl (WideMaps.keyOf_string_mk hk hs)
  rw [toD_at, hv] at hu
  rw [hr, toD_has, hv]
  simp [heldR] at hu
  rw [hu.1]
  rfl
theorem run_kvGet (hk : P.underlying k = some .string) (ht : P.underlying t = some (.map k e)) (hz : (zeroValue e).run P w = .ok z w) (hown : ownsKV w P k b l) (hs : s.size ≤ maxLen) :
    (Instr.lookup t (.map (some b)) (.string s) false).run P w = .ok ((kvGet l s).getD z) w := by
  obtain ⟨u, ps, hr, hu⟩ := World.ownsMap.lookup hown (string_keyed hk) ht hz (zd := .held z) (zp := []) rfl (WideMaps.keyOf_string_mk hk hs)
  rw [toD_at] at hu
  rw [hr]
  simp [heldR] at hu
  rw [hu.1]
theorem run_kvNil (c : Bool) (hk : P.underlying k = some .string) (ht : P.underlying t = some (.map k e)) (hz : (zeroValue e).run P w = .ok z w) (hs : s.size ≤ maxLen) :
    (Instr.lookup t (.map none) (.string s) c).run P w = .ok (if c then .tuple #[z, .bool false] else z) w := Maps.look_nil c (string_keyed hk) ht hz (WideMaps.keyOf_string_mk hk hs)
theorem run_kvStore (hk : P.underlying k = some .string) (ht : P.underlying t = some (.map k e)) (hown : ownsKV w P k b l) (hn : l.length < 1099511627776) {u : Value} (hs : s.size ≤ maxLen) :
    ∃ w', (Instr.mapUpdate t (.map (some b)) (.string s) u).run P w = .ok () w' ∧ ownsKV w' P k b (kvPut l s u) ∧ w.grownBy w' (some b) := by
  obtain ⟨w', hrun, h1, h2⟩ := World.ownsMap.update hown (string_keyed hk) ht (by unfold maxLen; omega) (d := .held u) (ps := []) (val := u) (WideMaps.keyOf_string_mk hk hs) rfl
  rw [toD_put] at h1
  exact ⟨w', hrun, ownsKV_of h1, h2⟩
theorem ownsKV_alloc (h : ownsKV w P k b l) (o : Obj) : ownsKV (w.alloc o) P k b l := ownsKV_block h (Below.heap_alloc w o b h.lt)
theorem ownsKV_setCell (h : ownsKV w P k b l) {p : Addr} (hp : b ≠ p.block) (u : Value) : ownsKV (w.setCell p u) P k b l := ownsKV_block h (Below.heap_setCell w p u b hp)
theorem ownsKV_below {w' : World} {B : Nat} (h : ownsKV w P k b l) (hb : Below B w w') (hB : b < B) : ownsKV w' P k b l := ownsKV_block h (hb.block b hB)
end
end Go.Proofs.Ytopmanmjggcfaaa
