/- The index: Find, Names, Packs. -/
import Derived.Test.YtopmanmjggcfaaaIb
import Derived.Test.YtopmanmjggcfaaaIt
namespace Go.Proofs.Ytopmanmjggcfaaa
open Go.RowKit Go.Maps Go.Sort Go.Shelf

theorem noPlV : (.agg #[.string ⟨#[]⟩, .string ⟨#[]⟩, .int .i64 0, .int .u32 0, .int .i64 0, .int .i64 0, .int .i64 0] : Value) = plV noPl := rfl
set_option maxRecDepth 100000 in
set_option maxHeartbeats 800000 in
theorem find_any (b : Nat) (mb rb : Option Nat) (X : Ix) (name : ByteArray) (w : World) (h : IxAt w b mb rb X) (hs : name.size ≤ 9223372036854775807) :
    Calls Try.prog 9 #[.pointer (some ⟨b, 0, none⟩), .string name] w fun e w' => e = .returned (.tuple #[plV ((kvGet X.places name).getD noPl), .bool (kvGet X.places name).isSome]) ∧ Below w.heap.size w w' := by
  obtain ⟨A, c, hk, _, _, _, hm⟩ := h
  have hk' := hk.alloc (.cells #[.string ⟨#[]⟩, .string ⟨#[]⟩, .int .i64 0, .int .u32 0, .int .i64 0, .int .i64 0, .int .i64 0] 34)
  have c0 : (w.alloc (.cells #[.string ⟨#[]⟩, .string ⟨#[]⟩, .int .i64 0, .int .u32 0, .int .i64 0, .int .i64 0, .int .i64 0] 34)).cell? ⟨b, 0, none⟩ = some (.map mb) := hk'.cell 0
  have hlt := hk.lt
  have hmax : name.size ≤ maxLen := by unfold maxLen; exact hs
  have hrun : ∃ q g, (Instr.lookup 24 (.map mb) (.string name) true).run Try.prog (w.alloc (.cells #[.string ⟨#[]⟩, .string ⟨#[]⟩, .int .i64 0, .int .u32 0, .int .i64 0, .int .i64 0, .int .i64 0] 34)) = .ok (.tuple #[.agg #[.string q.pack, .string q.head.name, .int .i64 q.head.method, .int .u32 q.head.crc, .int .i64 q.head.packed, .int .i64 q.head.size, .int .i64 q.head.at_], .bool g]) (w.alloc (.cells #[.string ⟨#[]⟩, .string ⟨#[]⟩, .int .i64 0, .int .u32 0, .int .i64 0, .int .i64 0, .int .i64 0] 34)) ∧ q = (kvGet X.places name).getD noPl ∧ g = (kvGet X.places name).isSome := by
    cases mb with
    | none =>
      have hm : X.places = [] := hm
      rw [hm]
      exact ⟨noPl, false, run_kvNil true Try.underlying9 Try.underlying24 (zeroPl _) hmax, rfl, rfl⟩
    | some m =>
      have hm : ownsKV w Try.prog 9 m (kvMap plV X.places) := hm
      have hm := ownsKV_alloc hm (.cells #[.string ⟨#[]⟩, .string ⟨#[]⟩, .int .i64 0, .int .u32 0, .int .i64 0, .int .i64 0, .int .i64 0] 34)
      cases hg : kvGet X.places name with
      | none => exact ⟨noPl, false, run_kvNone Try.underlying9 Try.underlying24 (zeroPl _) hm hmax (by rw [kvGet_map, hg]; rfl), rfl, rfl⟩
      | some q => exact ⟨q, true, run_kvFound Try.underlying9 Try.underlying24 (zeroPl _) hm hmax (by rw [kvGet_map, hg]; rfl), rfl, rfl⟩
  obtain ⟨q, g, hrun, hq, hg⟩ := hrun
  rw [← hq, ← hg]
  clear hq hg hm hk hk'
  go_enter Try.func9, Try.ntmps9
  go_wp2
  refine bodyPost_ret (v := .tuple #[.agg #[.string q.pack, .string q.head.name, .int .i64 q.head.method, .int .u32 q.head.crc, .int .i64 q.head.packed, .int .i64 q.head.size, .int .i64 q.head.at_], .bool g]) (by simp [results, Try.results9, go_sem]) rfl ⟨rfl, ?_⟩
  exact ((Below.refl _ w).alloc (Nat.le_refl _) _).alloc (by simp) _

theorem strKeys_toD (l : List (ByteArray × Value)) : strKeys (toD l) = l.map (·.1.data.toList) := by
  simp [toD, strKeys]
  intro a b _; rfl
/-- the names, rising -/
def namesI (l : List (ByteArray × Pl)) : List ByteArray := l.map (·.1)
theorem sort_up {α : Type} {l : List (ByteArray × α)} (h : kvUp l) {ss : List (List UInt8)} (hp : ss.Perm (l.map (·.1.data.toList))) : ss.mergeSort (fun x y => decide (x ≤ y)) = l.map (·.1.data.toList) := by
  have ht : ∀ x y z : List UInt8, decide (x ≤ y) = true → decide (y ≤ z) = true → decide (x ≤ z) = true := by
    intro x y z h1 h2; simp only [decide_eq_true_eq] at *; exact List.le_trans h1 h2
  have hto : ∀ x y : List UInt8, (decide (x ≤ y) || decide (y ≤ x)) = true := by
    intro x y; simp only [Bool.or_eq_true, decide_eq_true_eq]; exact List.le_total x y
  refine List.Perm.eq_of_pairwise (le := fun x y => decide (x ≤ y) = true) ?_ (List.pairwise_mergeSort ht hto ss) ?_ ((List.mergeSort_perm ss _).trans hp)
  · intro x y _ _ h1 h2
    simp only [decide_eq_true_eq] at h1 h2
    exact List.le_antisymm h1 h2
  · rw [List.pairwise_map]
    exact h.imp fun h => decide_eq_true (List.le_of_lt h)
theorem keys_any (mb : Option Nat) (w : World) : Calls Try.prog 37 #[.map mb] w fun e w' =>
    e = .returned (.func (.func 44) #[] #[.pointer (some ⟨w.heap.size, 0, none⟩)]) ∧ w' = w.alloc (.cells #[.map mb] 24) :=
  callsIn_wide.1 (Try.maps_Keys_37 mb w)
theorem own_base {w : World} {B B' n k : Nat} {t : TypeId} {v : Value} {xs : List Value} (h : w.ownsRow B t k v n xs) (hB : B' ≤ B) : w.ownsRow B' t k v n xs := by
  obtain ⟨q1, q2⟩ := h
  refine ⟨q1, q2.imp id ?_⟩
  rintro ⟨g, cap, cur, r1, r2, r3⟩
  exact ⟨g, cap, cur, r1, by omega, r3⟩
theorem sorted_any (mb : Option Nat) (l : List (ByteArray × Pl)) (w : World) (hm : IxMap w mb l) (hu : kvUp l) (hl : l.length ≤ 1000000) :
    Calls Try.prog 36 #[.func (.func 44) #[] #[.pointer (some ⟨w.heap.size, 0, none⟩)]] (w.alloc (.cells #[.map mb] 24)) fun e w' =>
      ∃ v, e = .returned v ∧ w'.ownsRow w.heap.size 9 1 v (namesI l).length (strsV (namesI l)) ∧ Below w.heap.size (w.alloc (.cells #[.map mb] 24)) w' := by
  cases mb with
  | none =>
    have hm : l = [] := hm
    subst hm
    refine (callsIn_wide.1 (Try.slices_Sorted_keys_nil_36_37 w)).mono ?_
    rintro e w' ⟨v, ss, rfl, rfl, ho, _, hb⟩
    refine ⟨v, rfl, ?_, hb.mono (by simp)⟩
    have e0 : (([] : List (List UInt8)).mergeSort (fun x y => decide (x ≤ y))).map encStr = [] := by simp
    rw [e0] at ho
    exact own_base (xs := []) ho (by simp)
  | some b =>
    have hm : ownsKV w Try.prog 9 b (kvMap plV l) := hm
    have hs : Maps.size (toD (kvMap plV l)) = l.length := by simp [toD, Maps.size, kvMap]
    refine (callsIn_wide.1 (Try.slices_Sorted_keys_36_37 b (kvMap plV l).length (toD (kvMap plV l)) heldR w hm (by rw [hs]; unfold maxLen; omega) (by rw [hs]; omega))).mono ?_
    rintro e w' ⟨v, ss, rfl, hp, ho, _, hb⟩
    refine ⟨v, rfl, ?_, hb.mono (by simp)⟩
    rw [strKeys_toD] at hp
    have hp : ss.Perm (l.map (·.1.data.toList)) := by simpa [kvMap, Function.comp_def] using hp
    have h1 : ss.length = (namesI l).length := by rw [hp.length_eq]; simp [namesI]
    rw [sort_up hu hp, h1] at ho
    have h2 : (l.map (·.1.data.toList)).map encStr = strsV (namesI l) := by
      unfold strsV namesI
      rw [List.map_map, List.map_map]
      exact List.map_congr_left fun p _ => congrArg Value.string (bs_self p.1)
    rw [h2] at ho
    exact own_base ho (by simp)
def RowPost (l : List ByteArray) (w : World) (e : Ending) (w' : World) : Prop := ∃ A c, e = .returned (.slice A l.length c) ∧ StrsA w' w'.heap.size A l ∧ l.length ≤ c ∧ Below w.heap.size w w'
theorem RowPost.of {l : List ByteArray} {w w' : World} {v : Value} {B : Nat} (h : w'.ownsRow B 9 1 v l.length (strsV l)) (hb : Below w.heap.size w w') : RowPost l w (.returned v) w' := by
  obtain ⟨A, c, rfl, hc⟩ := own_form h
  exact ⟨A, c, rfl, (own_strs (l := l) h).1, hc, hb⟩
theorem names_any (b : Nat) (mb rb : Option Nat) (X : Ix) (w : World) (h : IxAt w b mb rb X) (hu : kvUp X.places) (hl : X.places.length ≤ 1000000) :
    Calls Try.prog 20 #[.pointer (some ⟨b, 0, none⟩)] w fun e w' => RowPost (namesI X.places) w e w' := by
  obtain ⟨A, c, hk, _, _, _, hm⟩ := h
  have c0 : w.cell? ⟨b, 0, none⟩ = some (.map mb) := hk.cell 0
  have HS := Lib.hid (sorted_any mb X.places w hm hu hl)
  have HK := Lib.hid (keys_any mb w)
  clear hk hm
  go_enter Try.func20, Try.ntmps20
  go_wp2_with fail
  refine HK.out.mono ?_
  rintro e w1 ⟨rfl, rfl⟩
  go_wp2_with fail
  refine HS.out.mono ?_
  rintro e w2 ⟨v, rfl, ho, hb⟩
  have HR := Lib.hid (RowPost.of ho (((Below.refl _ w).alloc (Nat.le_refl _) _).trans hb))
  clear ho hb
  go_wp2
  go_ret
  exact HR.out
theorem packs_any (b : Nat) (mb rb : Option Nat) (X : Ix) (w : World) (h : IxAt w b mb rb X) (hl : X.packs.length ≤ 1000000) :
    Calls Try.prog 19 #[.pointer (some ⟨b, 0, none⟩)] w fun e w' => RowPost X.packs w e w' := by
  obtain ⟨A, c, hk, ho, _, _, _⟩ := h
  have c1 : w.cell? ⟨b, 1, none⟩ = some (.slice A X.packs.length c) := hk.cell 1
  have hs := (own_strs (l := X.packs) ho).1
  have HC := Lib.hid (show Calls Try.prog 35 #[.slice A X.packs.length c] w (fun e w' => RowPost X.packs w e w') by
    by_cases h0 : X.packs.length = 0
    · have hn : X.packs = [] := List.eq_nil_of_length_eq_zero h0
      rw [hn]
      cases A with
      | none =>
        refine (Try.slices_Clone_string_nil 0 c w).mono ?_
        rintro e w' ⟨rfl, rfl⟩
        exact ⟨none, 0, rfl, (fun h => absurd h (Nat.lt_irrefl 0)), Nat.le_refl _, Below.refl _ _⟩
      | some a =>
        refine (Try.slices_Clone_string_zero a c w).mono ?_
        rintro e w' ⟨v, rfl, ho', _, hb⟩
        exact RowPost.of (l := []) ho' hb
    · obtain ⟨b', o, rfl, _, hc⟩ := hs (by omega)
      refine (Try.slices_Clone_string b' o X.packs.length c X.packs w (Nat.le_refl _) (by omega) (getD_str hc)).mono ?_
      rintro e w' ⟨v, rfl, ho', _, hb⟩
      rw [List.take_length] at ho'
      exact RowPost.of ho' hb)
  clear hk ho hs
  go_enter Try.func19, Try.ntmps19
  go_wp2_with fail
  refine HC.out.mono ?_
  rintro e w1 ⟨A', c', rfl, h1, h2, h3⟩
  have HR := Lib.hid (show RowPost X.packs w (.returned (.slice A' X.packs.length c')) w1 from ⟨A', c', rfl, h1, h2, h3⟩)
  clear h1 h2 h3
  go_wp2
  go_ret
  exact HR.out
end Go.Proofs.Ytopmanmjggcfaaa
