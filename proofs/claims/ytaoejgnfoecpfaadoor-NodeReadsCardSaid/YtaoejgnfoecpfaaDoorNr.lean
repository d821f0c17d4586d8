/- A tree's nodes: the program's number and text; Encode. -/
import Derived.Test.YtaoejgnfoecpfaaDoorNo
import Derived.Test.YtaoejgnfoecpfaaDoorNn
namespace Go.Proofs.YtaoejgnfoecpfaaDoor
open Go.RowKit

theorem pnum12_any (n : Nat) (w : World) (hn : n ≤ 9223372036854775807) : Calls Tryd.prog 64 #[.int .i64 n] w fun e w' => e = .returned (.string ⟨(varL n).toArray⟩) ∧ Below w.heap.size w w' := by
  have H1 := Lib.hid fun W => var_any n W (by omega)
  have hu : IntKind.u64.wrap (n : Int) = (n : Int) := IntWalk.u64_in _ (by omega)
  clear hn
  go_enter Tryd.func64, Tryd.ntmps64
  go_wp2_with fail
  refine (H1.out _).mono ?_
  rintro e w1 ⟨rfl, hb⟩
  go_wp2
  go_ret
  exact ⟨rfl, hb⟩
theorem ptext12_any (s : ByteArray) (w : World) (hs : s.size ≤ 140737488355328) : Calls Tryd.prog 66 #[.string s] w fun e w' => e = .returned (.string (bs (textL s))) ∧ Below w.heap.size w w' := by
  have H1 := Lib.hid fun W => var_any s.size W (by omega)
  have hv := varB_size s.size
  have HE := Lib.hid (show (⟨(varL s.size).toArray⟩ : ByteArray) ++ s = bs (textL s) from bs_appS _ _)
  have hu : IntKind.u64.wrap (s.size : Int) = (s.size : Int) := IntWalk.u64_in _ (by omega)
  generalize (⟨(varL s.size).toArray⟩ : ByteArray) = v at *
  have y1 := fun W => run_string_add_sum (P := Tryd.prog) W v s (by omega)
  go_enter Tryd.func66, Tryd.ntmps66
  go_wp2_with fail
  refine (H1.out _).mono ?_
  rintro e w1 ⟨rfl, hb⟩
  go_wp2
  go_ret
  exact ⟨ret_str HE.out, hb⟩
/-- a number's text, a text's -/
theorem pvar (n : Nat) (hn : n ≤ 9223372036854775807) : ∃ v : ByteArray, v.data.toList = varL n ∧ v.size ≤ 11 ∧ ∀ W, Calls Tryd.prog 64 #[.int .i64 n] W fun e w' => e = .returned (.string v) ∧ Below W.heap.size W w' :=
  ⟨⟨(varL n).toArray⟩, by simp, varB_size n, fun W => pnum12_any n W hn⟩
theorem ptxt (s : ByteArray) (hs : s.size ≤ 200) : ∃ v : ByteArray, v.data.toList = textL s ∧ v.size ≤ 211 ∧ ∀ W, Calls Tryd.prog 66 #[.string s] W fun e w' => e = .returned (.string v) ∧ Below W.heap.size W w' := by
  refine ⟨bs (textL s), bs_list _, ?_, fun W => ptext12_any s W (by omega)⟩
  have := varB_size s.size
  have h2 : (varL s.size).length ≤ 11 := this
  rw [bs_size]
  unfold textL
  rw [List.length_append, ba_len]
  omega
end Go.Proofs.YtaoejgnfoecpfaaDoor
