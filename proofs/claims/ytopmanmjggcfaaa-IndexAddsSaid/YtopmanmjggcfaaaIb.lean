/- The index in memory; small functions. -/
import Derived.Test.YtopmanmjggcfaaaIa
import Derived.Test.YtopmanmjggcfaaaKw
import Derived.Test.YtopmanmjggcfaaaSh
namespace Go.Proofs.Ytopmanmjggcfaaa
open Go.RowKit

/-- rows of elements of so many cells, at an address, if there are any -/
def RowA (w : World) (B k : Nat) (A : Option Addr) (l : List (List Value)) : Prop := 0 < l.length → ∃ b o, A = some ⟨b, o, none⟩ ∧ b < B ∧ ∀ (i : Nat) c, l[i]? = some c → ∀ (j : Nat) u, c[j]? = some u → w.cell? ⟨b, o + i * k + j, none⟩ = some u
theorem RowA.below {w w' : World} {k : Nat} {A : Option Addr} {l : List (List Value)} (h : RowA w w.heap.size k A l) (hb : Below w.heap.size w w') : RowA w' w'.heap.size k A l := fun hl => by
  obtain ⟨b, o, h1, h2, h3⟩ := h hl
  exact ⟨b, o, h1, Nat.lt_of_lt_of_le h2 hb.size, fun i c hc j u hj => (hb.cell (p := ⟨b, o + i * k + j, none⟩) h2).trans (h3 i c hc j u hj)⟩
def hdC (h : Hd) : List Value := [.string h.name, .int .i64 h.method, .int .u32 h.crc, .int .i64 h.packed, .int .i64 h.size, .int .i64 h.at_]
def plC (p : Pl) : List Value := [.string p.pack, .string p.head.name, .int .i64 p.head.method, .int .u32 p.head.crc, .int .i64 p.head.packed, .int .i64 p.head.size, .int .i64 p.head.at_]
def plV (p : Pl) : Value := .agg (plC p).toArray
/-- no place -/
def noPl : Pl := ⟨⟨#[]⟩, ⟨⟨#[]⟩, 0, 0, 0, 0, 0⟩⟩
theorem zeroPl (w : World) : (zeroValue 34).run Try.prog w = .ok (.agg #[.string ⟨#[]⟩, .string ⟨#[]⟩, .int .i64 0, .int .u32 0, .int .i64 0, .int .i64 0, .int .i64 0]) w := by kernel_rfl
/-- an index in its block: its map, if there is one yet, and its row of packs -/
def IxMap (w : World) (mb : Option Nat) (l : List (ByteArray × Pl)) : Prop := match mb with
  | none => l = []
  | some m => ownsKV w Try.prog 9 m (kvMap plV l)
def IxAt (w : World) (b : Nat) (mb rb : Option Nat) (X : Ix) : Prop :=
  ∃ A c, Blk w b 27 #[.map mb, .slice A X.packs.length c] ∧ w.ownsRow 0 9 1 (.slice A X.packs.length c) X.packs.length (strsV X.packs) ∧ (Value.slice A X.packs.length c).ownBlock = rb ∧ rb ≠ some b ∧ IxMap w mb X.places
def IxF (b : Nat) (mb rb : Option Nat) (k : Nat) : Prop := k = b ∨ mb = some k ∨ rb = some k

theorem itxt_any (s : ByteArray) (w : World) (hs : s.size ≤ 140737488355328) : Calls Try.prog 23 #[.string s] w fun e w' => e = .returned (.string (bs (textL s))) ∧ Below w.heap.size w w' := by
  have H1 := Lib.hid fun W => var_any s.size W (by omega)
  have hv : (⟨(varL s.size).toArray⟩ : ByteArray).size ≤ 11 := by
    have := (varF_len 10 s.size).2
    show (varL s.size).toArray.size ≤ 11
    simpa [varL] using this
  have HE := Lib.hid (show (⟨(varL s.size).toArray⟩ : ByteArray) ++ s = bs (textL s) from bs_appS _ _)
  have hu : IntKind.u64.wrap (s.size : Int) = (s.size : Int) := IntWalk.u64_in _ (by omega)
  generalize (⟨(varL s.size).toArray⟩ : ByteArray) = v at *
  have hz : v.size + s.size ≤ 281474976710656 := by omega
  go_enter Try.func23, Try.ntmps23
  go_wp2_with fail
  refine (H1.out _).mono ?_
  rintro e w1 ⟨rfl, hb⟩
  go_wp2
  go_ret
  exact ⟨ret_str HE.out, hb⟩
theorem rtxt_any (s : ByteArray) (w : World) (hs : s.size ≤ 140737488355328) : Calls Try.prog 28 #[.string s] w fun e w' => e = .returned (.string (bs (textL s))) ∧ Below w.heap.size w w' := by
  have H1 := Lib.hid fun W => refvar_any s.size W (by omega)
  have hv : (⟨(varL s.size).toArray⟩ : ByteArray).size ≤ 11 := by
    have := (varF_len 10 s.size).2
    show (varL s.size).toArray.size ≤ 11
    simpa [varL] using this
  have HE := Lib.hid (show (⟨(varL s.size).toArray⟩ : ByteArray) ++ s = bs (textL s) from bs_appS _ _)
  have hu : IntKind.u64.wrap (s.size : Int) = (s.size : Int) := IntWalk.u64_in _ (by omega)
  generalize (⟨(varL s.size).toArray⟩ : ByteArray) = v at *
  have hz : v.size + s.size ≤ 281474976710656 := by omega
  go_enter Try.func28, Try.ntmps28
  go_wp2_with fail
  refine (H1.out _).mono ?_
  rintro e w1 ⟨rfl, hb⟩
  go_wp2
  go_ret
  exact ⟨ret_str HE.out, hb⟩
theorem getD_str {w : World} {b o : Nat} {l : List ByteArray} (h : ∀ (j : Nat) (u : ByteArray), l[j]? = some u → w.cell? ⟨b, o + j, none⟩ = some (.string u)) : ∀ j, j < l.length → w.cell? ⟨b, o + j, none⟩ = some (.string (l.getD j ByteArray.empty)) := fun j hj => by
  rw [h j l[j] (List.getElem?_eq_getElem hj), List.getD_eq_getElem?_getD, List.getElem?_eq_getElem hj]; rfl
theorem has_any (A : Option Addr) (c : Nat) (l : List ByteArray) (x : ByteArray) (w : World) (h : StrsA w w.heap.size A l) (hl : l.length ≤ 9223372036854775807) :
    Calls Try.prog 21 #[.slice A l.length c, .string x] w fun e w' => e = .returned (.bool (hasP l x)) ∧ w = w' := by
  by_cases h0 : l.length = 0
  · obtain rfl := List.eq_nil_of_length_eq_zero h0
    exact (Try.slices_Contains_string_empty A c x w).mono fun e w' ⟨h1, h2⟩ => ⟨h1, h2.symm⟩
  · obtain ⟨b, o, rfl, _, hc⟩ := h (by omega)
    refine (Try.slices_Contains_string b o l.length c l x w (Nat.le_refl _) hl (getD_str hc)).mono fun e w' ⟨h1, h2⟩ => ⟨?_, h2.symm⟩
    rw [h1, List.take_length]
    refine ret_bool ?_
    rw [Bool.eq_iff_iff, Lib.containsS_iff, hasP_iff]
theorem idx_any (A : Option Addr) (c : Nat) (l : List ByteArray) (x : ByteArray) (w : World) (h : StrsA w w.heap.size A l) (hl : l.length ≤ 9223372036854775807) (hx : x ∈ l) :
    Calls Try.prog 24 #[.slice A l.length c, .string x] w fun e w' => e = .returned (.int .i64 (idxP l x)) ∧ w = w' := by
  have hp : 0 < l.length := List.length_pos_of_mem hx
  obtain ⟨b, o, rfl, _, hc⟩ := h hp
  refine (Try.slices_Index_string b o l.length c l x w (Nat.le_refl _) hl (getD_str hc)).mono fun e w' ⟨h1, h2⟩ => ⟨?_, h2.symm⟩
  rw [h1, List.take_length]
  refine ret_int ?_
  have hi := idx_lt hx
  have := Lib.idxFromS_hit x l (idxP l x) 0 hi.1 hi.2 (fun j hj => by
    have hjl : j < l.length := by omega
    rw [List.getD_eq_getElem?_getD, List.getElem?_eq_getElem hjl]
    have := List.not_of_lt_findIdx hj
    simpa using this)
  unfold Lib.idxOfS
  rw [this, Nat.zero_add]
end Go.Proofs.Ytopmanmjggcfaaa
