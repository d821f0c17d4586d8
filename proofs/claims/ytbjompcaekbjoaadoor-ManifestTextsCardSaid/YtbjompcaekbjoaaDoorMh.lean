/- manifest.Check and the document's Good: words; printed by wip/gen/mkcheck.py. -/
import Derived.Test.YtbjompcaekbjoaaDoorMa
import Derived.Test.YtbjompcaekbjoaaDoorRd
namespace Go.Proofs.YtbjompcaekbjoaaDoor
open Go.RowKit

/-- texts at an address, if there are any -/
def StrsA (W : World) (B : Nat) (A : Option Addr) (l : List ByteArray) : Prop := 0 < l.length → ∃ b o, A = some ⟨b, o, none⟩ ∧ b < B ∧ ∀ (j : Nat) (u : ByteArray), l[j]? = some u → W.cell? ⟨b, o + j, none⟩ = some (.string u)
def manV (m : Man) (A : Option Addr) (c : Nat) : Value := .agg #[.int .i64 m.time, .string m.tag, .string m.parent, .int .i64 m.size, .slice A m.chunks.length c]
/-- the program's error for what is, or isn't, in form -/
def errI (g : Bool) : Int := if g = true then 0 else 4
/-- a manifest's own bounds -/
def ManB (m : Man) : Prop := -9223372036854775808 ≤ m.time ∧ m.time ≤ 9223372036854775807 ∧ -9223372036854775808 ≤ m.size ∧ m.size ≤ 9223372036854775807 ∧ m.tag.size ≤ 140737488355328 ∧ m.parent.size ≤ 140737488355328 ∧ m.chunks.length ≤ 140737488355328
theorem pname_bigM (s : ByteArray) (w : World) (he : Env w) (hs : s.size ≤ 140737488355328) : Calls Tryd.prog 35 #[.string s] w fun e w' => e = .returned (.bool (nameOk s)) ∧ Below w.heap.size w w' := by
  by_cases h : s.size ≤ 1099511627776
  · exact pname_any s w he h
  · have HN := Lib.hid (show nameOk s = false by unfold nameOk; rw [decide_eq_false (show ¬ s.size ≤ 60 by omega)]; simp)
    have ne : ∀ (l : List UInt8), l.length < 10 → s ≠ ⟨l.toArray⟩ := fun l hl e => by
      have : s.size = l.length := by rw [e]; exact List.size_toArray
      omega
    have hq0 := toList_nil (s := s) (by omega)
    have hq1 := list_ne (ne [46] (by decide))
    have hq2 := list_ne (ne [46, 46] (by decide))
    have h60 : (60 : Int) < (s.size : Int) := by omega
    clear ne
    go_enter Tryd.func35, Tryd.ntmps35
    go_wp2
    go_ret
    exact ⟨ret_bool HN.out.symm, Below.refl _ _⟩
theorem refname_bigM (s : ByteArray) (w : World) (hs : s.size ≤ 140737488355328) : Calls Tryd.prog 36 #[.string s] w fun e w' => e = .returned (.bool (nameOk s)) ∧ w = w' := by
  by_cases h : s.size ≤ 1099511627776
  · exact refname_any s w h
  · have HN := Lib.hid (show nameOk s = false by unfold nameOk; rw [decide_eq_false (show ¬ s.size ≤ 60 by omega)]; simp)
    have h1 : ¬ (s.size : Int) < 1 := by omega
    have h60 : (60 : Int) < (s.size : Int) := by omega
    go_enter Tryd.func36, Tryd.ntmps36
    go_wp2
    go_ret
    exact ⟨ret_bool HN.out.symm, rfl⟩
theorem named_bigM (s : ByteArray) (w : World) (hs : s.size ≤ 140737488355328) : Calls Tryd.prog 59 #[.string s] w fun e w' => e = .returned (.bool (isNameD s)) ∧ Below w.heap.size w w' := by
  by_cases h : s.size ≤ 1099511627776
  · exact named_any s w h
  · have HN := Lib.hid (show isNameD s = false by unfold isNameD; rw [decide_eq_false (by omega)]; simp)
    have hq : ((s.size : Int) == 64) = false := by simp; omega
    go_enter Tryd.func59, Tryd.ntmps59
    go_wp2
    go_ret
    exact ⟨ret_bool HN.out.symm, Below.refl _ _⟩

end Go.Proofs.YtbjompcaekbjoaaDoor
