/- The document's Fold. -/
import Derived.Test.YtbjompcaekbjoaaDoorRp
namespace Go.Proofs.YtbjompcaekbjoaaDoor
open Go.RowKit

theorem take_bytes (s : ByteArray) (p n : Nat) (h : p + n ≤ s.size) : (s.extract p s.size).extract 0 n = strB ((List.range n).map fun k => UInt8.ofNat (bAt s (p + k))) := by
  apply ByteArray.ext
  apply Array.toList_inj.1
  apply List.ext_getElem
  · simp [strB, ByteArray.data_extract]
    have : s.data.size = s.size := rfl
    omega
  · intro i h1 h2
    simp [strB] at h2
    have hb := bAt_get s (p + i) (by omega)
    simp only [strB, List.getElem_map, List.getElem_range, Array.getElem_toList, ByteArray.data_extract, Array.getElem_extract, Nat.zero_add]
    rw [← hb]
    simp
    rfl
theorem strB_app (l m : List UInt8) : strB l ++ strB m = strB (l ++ m) := by
  apply ByteArray.ext
  apply Array.toList_inj.1
  simp [strB]
end Go.Proofs.YtbjompcaekbjoaaDoor
