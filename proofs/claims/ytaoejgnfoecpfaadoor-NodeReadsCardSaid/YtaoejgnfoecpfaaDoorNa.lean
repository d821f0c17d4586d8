/- A tree's nodes as interface values: their kind, mode and time; may a link lead there? -/
import Derived.Test.YtaoejgnfoecpfaaDoorNq
import Derived.Test.YtaoejgnfoecpfaaDoorBk
namespace Go.Proofs.YtaoejgnfoecpfaaDoor
open Go.RowKit

def folV (a : ByteArray) (m t : Int) : Value := .iface 26 (.agg #[.string a, .int .i64 m, .int .i64 t])
def plaV (a : ByteArray) (m t z : Int) (A : Option Addr) (n c : Nat) : Value := .iface 75 (.agg #[.string a, .int .i64 m, .int .i64 t, .int .i64 z, .slice A n c])
def symV (a : ByteArray) (m t : Int) (g : ByteArray) : Value := .iface 103 (.agg #[.string a, .int .i64 m, .int .i64 t, .string g])
/-- a node's value: of a record -/
def NodeIs (w : World) (v : Value) (x : Nr) : Prop :=
  (x.kind = 1 ∧ v = folV x.at_ x.mode x.time) ∨
  (x.kind = 2 ∧ ∃ A c, v = plaV x.at_ x.mode x.time x.size A x.chunks.length c ∧ StrsA w w.heap.size A x.chunks ∧ (A = none → c = 0)) ∨
  (x.kind = 3 ∧ v = symV x.at_ x.mode x.time x.target) ∨
  (kindOk x = false ∧ (v = .nilIface ∨ ∃ g, v = .iface 134 (.pointer (some ⟨g, 0, none⟩))))
theorem NodeIs.below {w w' : World} {v : Value} {x : Nr} (h : NodeIs w v x) (hb : Below w.heap.size w w') : NodeIs w' v x := by
  rcases h with h | ⟨h, A, c, h1, h2, h3⟩ | h | h
  · exact .inl h
  · exact .inr (.inl ⟨h, A, c, h1, h2.below hb, h3⟩)
  · exact .inr (.inr (.inl h))
  · exact .inr (.inr (.inr h))
def kindR (x : Nr) : Int := if kindOk x = true then x.kind else 0
theorem kindOk_of {x : Nr} (h : 1 ≤ x.kind ∧ x.kind ≤ 3) : kindOk x = true := by unfold kindOk; simp [h]
def zFol : Value := .agg #[.string ⟨#[]⟩, .int .i64 0, .int .i64 0]
def zPla : Value := .agg #[.string ⟨#[]⟩, .int .i64 0, .int .i64 0, .int .i64 0, .slice none 0 0]
def zSym : Value := .agg #[.string ⟨#[]⟩, .int .i64 0, .int .i64 0, .string ⟨#[]⟩]
theorem taFF (u : Value) (w : World) : (Instr.typeAssert (.iface 26 u) 35 26 true).run Tryd.prog w = .ok (.tuple #[u, .bool true]) w := by kernel_rfl
theorem taPP (u : Value) (w : World) : (Instr.typeAssert (.iface 75 u) 35 75 true).run Tryd.prog w = .ok (.tuple #[u, .bool true]) w := by kernel_rfl
theorem taSS (u : Value) (w : World) : (Instr.typeAssert (.iface 103 u) 35 103 true).run Tryd.prog w = .ok (.tuple #[u, .bool true]) w := by kernel_rfl
theorem taPF (u : Value) (w : World) : (Instr.typeAssert (.iface 75 u) 35 26 true).run Tryd.prog w = .ok (.tuple #[zFol, .bool false]) w := by kernel_rfl
theorem taSF (u : Value) (w : World) : (Instr.typeAssert (.iface 103 u) 35 26 true).run Tryd.prog w = .ok (.tuple #[zFol, .bool false]) w := by kernel_rfl
theorem taQF (u : Value) (w : World) : (Instr.typeAssert (.iface 134 u) 35 26 true).run Tryd.prog w = .ok (.tuple #[zFol, .bool false]) w := by kernel_rfl
theorem taNF (w : World) : (Instr.typeAssert .nilIface 35 26 true).run Tryd.prog w = .ok (.tuple #[zFol, .bool false]) w := by kernel_rfl
theorem taFP (u : Value) (w : World) : (Instr.typeAssert (.iface 26 u) 35 75 true).run Tryd.prog w = .ok (.tuple #[zPla, .bool false]) w := by kernel_rfl
theorem taSP (u : Value) (w : World) : (Instr.typeAssert (.iface 103 u) 35 75 true).run Tryd.prog w = .ok (.tuple #[zPla, .bool false]) w := by kernel_rfl
theorem taQP (u : Value) (w : World) : (Instr.typeAssert (.iface 134 u) 35 75 true).run Tryd.prog w = .ok (.tuple #[zPla, .bool false]) w := by kernel_rfl
theorem taNP (w : World) : (Instr.typeAssert .nilIface 35 75 true).run Tryd.prog w = .ok (.tuple #[zPla, .bool false]) w := by kernel_rfl
theorem taFS (u : Value) (w : World) : (Instr.typeAssert (.iface 26 u) 35 103 true).run Tryd.prog w = .ok (.tuple #[zSym, .bool false]) w := by kernel_rfl
theorem taPS (u : Value) (w : World) : (Instr.typeAssert (.iface 75 u) 35 103 true).run Tryd.prog w = .ok (.tuple #[zSym, .bool false]) w := by kernel_rfl
theorem taQS (u : Value) (w : World) : (Instr.typeAssert (.iface 134 u) 35 103 true).run Tryd.prog w = .ok (.tuple #[zSym, .bool false]) w := by kernel_rfl
theorem taNS (w : World) : (Instr.typeAssert .nilIface 35 103 true).run Tryd.prog w = .ok (.tuple #[zSym, .bool false]) w := by kernel_rfl
theorem kind_any (v : Value) (x : Nr) (w : World) (h : NodeIs w v x) : Calls Tryd.prog 16 #[v] w fun e w' => e = .returned (.int .i64 (kindR x)) ∧ w = w' := by
  have t1 := taFF
  have t2 := taPP
  have t3 := taSS
  have t4 := taPF
  have t5 := taSF
  have t6 := taQF
  have t7 := taNF
  have t8 := taSP
  have t9 := taQP
  have t10 := taNP
  have t11 := taQS
  have t12 := taNS
  rcases h with ⟨h, rfl⟩ | ⟨h, A, c, rfl, _⟩ | ⟨h, rfl⟩ | ⟨h, rfl | ⟨g, rfl⟩⟩
  · have hk : kindR x = 1 := by unfold kindR; rw [if_pos (kindOk_of (by omega)), h]
    rw [hk]
    unfold folV
    clear h hk
    go_enter Tryd.func16, Tryd.ntmps16
    go_wp2
    go_ret
    exact ⟨rfl, rfl⟩
  · have hk : kindR x = 2 := by unfold kindR; rw [if_pos (kindOk_of (by omega)), h]
    rw [hk]
    unfold plaV
    clear h hk
    go_enter Tryd.func16, Tryd.ntmps16
    go_wp2
    go_ret
    exact ⟨rfl, rfl⟩
  · have hk : kindR x = 3 := by unfold kindR; rw [if_pos (kindOk_of (by omega)), h]
    rw [hk]
    unfold symV
    clear h hk
    go_enter Tryd.func16, Tryd.ntmps16
    go_wp2
    go_ret
    exact ⟨rfl, rfl⟩
  all_goals
    have hk : kindR x = 0 := by unfold kindR; rw [h]; rfl
    rw [hk]
    clear h hk
    go_enter Tryd.func16, Tryd.ntmps16
    go_wp2
    go_ret
    exact ⟨rfl, rfl⟩
end Go.Proofs.YtaoejgnfoecpfaaDoor
