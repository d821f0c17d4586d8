/- awake of layer 13. -/
import Derived.Test.YtaoejgnfoecpfaaDoorJt20
namespace Go.Proofs.YtaoejgnfoecpfaaDoor
set_option linter.unusedVariables false
set_option linter.unusedSimpArgs false
set_option linter.unusedSectionVars false
open Go.RowKit

theorem itms_at {l : List Itm} {i j : Nat} {x : Itm} {u : Value} (hx : l[i]? = some x) (hj : (itmC x)[j]? = some u) : (itmsC l)[i * 5 + j]? = some u := by
  have hi := (List.getElem?_eq_some_iff.1 hx).1
  have h5 : j < 5 := (List.getElem?_eq_some_iff.1 hj).1
  obtain ⟨y, h1, h2⟩ := get_itmsC l (i * 5 + j) (by omega)
  rw [show (i * 5 + j) / 5 = i by omega, hx] at h1
  obtain rfl := Option.some.inj h1
  rw [h2, show (i * 5 + j) % 5 = j by omega]
  exact hj
/-- a row that was written out -/
theorem itm_new (w : World) (l : List Itm) (cs : Array Value) (h : cs = (itmsC l).toArray) : ItmA (w.alloc (.cells cs 59)) (some ⟨w.heap.size, 0, none⟩) l := fun _ => by
  refine ⟨w.heap.size, 0, rfl, by simp, fun i x hx j u hj => ?_⟩
  have hc := (Blk.new w 59 cs).cell (0 + i * 5 + j)
  rw [hc, Nat.zero_add, h]
  have := itms_at hx hj
  simpa using this
/-- an owned row of items -/
theorem own_itmA {w : World} {B n c : Nat} {A : Option Addr} {xs : List Itm} (h : w.ownsRow B 59 5 (.slice A n c) n (itmsC xs)) (hn : n = xs.length) : ItmA w A xs := fun hl => by
  rcases h.2 with ⟨hv, h0⟩ | ⟨g, cap, cur, hv, _, hg, _, _, _, htake⟩
  · omega
  · simp only [Value.slice.injEq] at hv
    obtain ⟨rfl, _, rfl⟩ := hv
    refine ⟨g, 0, rfl, (Array.getElem?_eq_some_iff.1 hg).1, fun i x hx j u hj => ?_⟩
    have hi := (List.getElem?_eq_some_iff.1 hx).1
    have h5 : j < 5 := (List.getElem?_eq_some_iff.1 hj).1
    have h1 := itms_at hx hj
    rw [← htake, List.getElem?_take, if_pos (by omega)] at h1
    rw [show 0 + i * 5 + j = i * 5 + j by omega, cell_of_row w g (i * 5 + j) cur _ _ hg]
    simpa using h1
def dirA : Itm := ⟨⟨#[97]⟩, 1, 0, 0, ⟨#[]⟩⟩
def fileB : Itm := ⟨⟨#[97, 47, 98]⟩, 2, 0, 0, ⟨#[]⟩⟩
def fileX : Itm := ⟨⟨#[]⟩, 2, 0, 0, ⟨#[120, 121, 122]⟩⟩
theorem dirA_fit : fitI dirA = 0 := by decide +kernel
theorem fileB_fit : fitI fileB = 0 := by decide +kernel
theorem chk_one {e : Nat} (h : ChkR [fileB] e) : e = 7 := by
  rcases h with ⟨h1, _⟩ | ⟨_, h2, _⟩ | ⟨_, _, ys, h3, _, rfl⟩
  · exact absurd h1 (by decide)
  · exact absurd (show fitsE [fileB] = 0 by decide +kernel) h2
  · rw [List.perm_singleton.1 h3]
    decide +kernel
theorem chk_two {e : Nat} (h : ChkR [fileB, dirA] e) : e = 0 := by
  refine (chk_zero h).2 ⟨by decide, fun x hx => ?_, ?_, fun x hx => ?_⟩
  · simp only [List.mem_cons, List.not_mem_nil, or_false] at hx
    rcases hx with rfl | rfl
    · exact fileB_fit
    · exact dirA_fit
  · refine List.pairwise_cons.2 ⟨fun y hy => ?_, List.pairwise_singleton _ _⟩
    obtain rfl : y = dirA := by simpa using hy
    exact (by decide : fileB.path ≠ dirA.path)
  · simp only [List.mem_cons, List.not_mem_nil, or_false] at hx
    rcases hx with rfl | rfl
    · exact .inr ⟨dirA, by simp, rfl, by decide +kernel⟩
    · exact .inl (by decide +kernel)
theorem size_three : sizeW [fileX, dirA] = 3 := by decide +kernel
theorem ib_dirA : ItB dirA := ⟨by decide, by decide⟩
theorem ib_fileB : ItB fileB := ⟨by decide, by decide⟩
set_option maxRecDepth 100000 in
set_option maxHeartbeats 1600000 in
theorem awake13_any (w : World) (he : Env w) : Calls Tryd.prog 52 #[] w fun e w' => e = .returned (.bool true) ∧ Below w.heap.size w w' := by
  have HE := Lib.hid fun W (hb : Below w.heap.size w W) => he.below hb
  have hz1 : (w.alloc (.cells #[.string ⟨#[97]⟩, .int .i64 1, .int .i64 0, .int .i64 0, .string ⟨#[]⟩] 59)).heap.size = w.heap.size + 1 := by simp
  have k1 := Blk.new w 59 #[.string ⟨#[97]⟩, .int .i64 1, .int .i64 0, .int .i64 0, .string ⟨#[]⟩]
  have k2 := Blk.new (w.alloc (.cells #[.string ⟨#[97]⟩, .int .i64 1, .int .i64 0, .int .i64 0, .string ⟨#[]⟩] 59)) 59 #[.string ⟨#[97, 47, 98]⟩, .int .i64 2, .int .i64 0, .int .i64 0, .string ⟨#[]⟩]
  have k1' := Blk.alloc k1 (.cells #[.string ⟨#[97, 47, 98]⟩, .int .i64 2, .int .i64 0, .int .i64 0, .string ⟨#[]⟩] 59)
  have hb1 := (Below.refl w.heap.size w).alloc (Nat.le_refl _) (.cells #[.string ⟨#[97]⟩, .int .i64 1, .int .i64 0, .int .i64 0, .string ⟨#[]⟩] 59)
  have hb2 := hb1.alloc hb1.size (.cells #[.string ⟨#[97, 47, 98]⟩, .int .i64 2, .int .i64 0, .int .i64 0, .string ⟨#[]⟩] 59)
  rw [hz1] at k2
  have HK1 := Lib.hid k1'
  have HK2 := Lib.hid k2
  have HB2 := Lib.hid hb2
  clear he k1 k2 k1' hb1 hb2 hz1
  go_enter Tryd.func52, Tryd.ntmps52
  go_wp2_with fail
  have ha3 := itm_new ((w.alloc (.cells #[.string ⟨#[97]⟩, .int .i64 1, .int .i64 0, .int .i64 0, .string ⟨#[]⟩] 59)).alloc (.cells #[.string ⟨#[97, 47, 98]⟩, .int .i64 2, .int .i64 0, .int .i64 0, .string ⟨#[]⟩] 59)) [fileB] #[.string ⟨#[97, 47, 98]⟩, .int .i64 2, .int .i64 0, .int .i64 0, .string ⟨#[]⟩] rfl
  have hz2 : ((w.alloc (.cells #[.string ⟨#[97]⟩, .int .i64 1, .int .i64 0, .int .i64 0, .string ⟨#[]⟩] 59)).alloc (.cells #[.string ⟨#[97, 47, 98]⟩, .int .i64 2, .int .i64 0, .int .i64 0, .string ⟨#[]⟩] 59)).heap.size = w.heap.size + 1 + 1 := by simp
  rw [hz2] at ha3
  generalize (w.alloc (.cells #[.string ⟨#[97]⟩, .int .i64 1, .int .i64 0, .int .i64 0, .string ⟨#[]⟩] 59)).alloc (.cells #[.string ⟨#[97, 47, 98]⟩, .int .i64 2, .int .i64 0, .int .i64 0, .string ⟨#[]⟩] 59) = W2 at *
  have HB3 := Lib.hid (HB2.out.alloc HB2.out.size (.cells #[.string ⟨#[97, 47, 98]⟩, .int .i64 2, .int .i64 0, .int .i64 0, .string ⟨#[]⟩] 59))
  have HK3 := Lib.hid (HK1.out.alloc (.cells #[.string ⟨#[97, 47, 98]⟩, .int .i64 2, .int .i64 0, .int .i64 0, .string ⟨#[]⟩] 59))
  have HK4 := Lib.hid (HK2.out.alloc (.cells #[.string ⟨#[97, 47, 98]⟩, .int .i64 2, .int .i64 0, .int .i64 0, .string ⟨#[]⟩] 59))
  refine (wcheck_any (some ⟨w.heap.size + 1 + 1, 0, none⟩) 1 [fileB] _ (HE.out _ HB3.out) ha3 (fun x hx => by rw [List.mem_singleton.1 hx]; exact ib_fileB) (by decide)).mono ?_
  rintro e w5 ⟨n, rfl, hn, hb5⟩
  obtain rfl := chk_one hn
  have HB5 := Lib.hid (HB3.out.trans (hb5.mono HB3.out.size))
  have k5 := HK3.out.below hb5 HK3.out.lt
  have k6 := HK4.out.below hb5 HK4.out.lt
  have HK5 := Lib.hid k5
  have HK6 := Lib.hid k6
  have a0 : w5.cell? ⟨w.heap.size, 0, none⟩ = some (.string ⟨#[97]⟩) := k5.cell 0
  have a1 : w5.cell? ⟨w.heap.size, 1, none⟩ = some (.int .i64 1) := k5.cell 1
  have a2 : w5.cell? ⟨w.heap.size, 2, none⟩ = some (.int .i64 0) := k5.cell 2
  have a3 : w5.cell? ⟨w.heap.size, 3, none⟩ = some (.int .i64 0) := k5.cell 3
  have a4 : w5.cell? ⟨w.heap.size, 4, none⟩ = some (.string ⟨#[]⟩) := k5.cell 4
  have b0 : w5.cell? ⟨w.heap.size + 1, 0, none⟩ = some (.string ⟨#[97, 47, 98]⟩) := k6.cell 0
  have b1 : w5.cell? ⟨w.heap.size + 1, 1, none⟩ = some (.int .i64 2) := k6.cell 1
  have b2 : w5.cell? ⟨w.heap.size + 1, 2, none⟩ = some (.int .i64 0) := k6.cell 2
  have b3 : w5.cell? ⟨w.heap.size + 1, 3, none⟩ = some (.int .i64 0) := k6.cell 3
  have b4 : w5.cell? ⟨w.heap.size + 1, 4, none⟩ = some (.string ⟨#[]⟩) := k6.cell 4
  clear hb5 hn k5 k6 ha3 hz2 HB3 HK3 HK4 HB2 HK1 HK2
  have ha6 := itm_new w5 [fileB, dirA] #[.string ⟨#[97, 47, 98]⟩, .int .i64 2, .int .i64 0, .int .i64 0, .string ⟨#[]⟩, .string ⟨#[97]⟩, .int .i64 1, .int .i64 0, .int .i64 0, .string ⟨#[]⟩] rfl
  have HA6 := Lib.hid ha6
  have HB6 := Lib.hid (HB5.out.alloc HB5.out.size (.cells #[.string ⟨#[97, 47, 98]⟩, .int .i64 2, .int .i64 0, .int .i64 0, .string ⟨#[]⟩, .string ⟨#[97]⟩, .int .i64 1, .int .i64 0, .int .i64 0, .string ⟨#[]⟩] 59))
  have HK6' := Lib.hid (HK5.out.alloc (.cells #[.string ⟨#[97, 47, 98]⟩, .int .i64 2, .int .i64 0, .int .i64 0, .string ⟨#[]⟩, .string ⟨#[97]⟩, .int .i64 1, .int .i64 0, .int .i64 0, .string ⟨#[]⟩] 59))
  clear ha6
  go_wp2_with fail
  refine (wcheck_any (some ⟨w5.heap.size, 0, none⟩) 2 [fileB, dirA] _ (HE.out _ HB6.out) HA6.out (fun x hx => by
    simp only [List.mem_cons, List.not_mem_nil, or_false] at hx
    rcases hx with rfl | rfl
    · exact ib_fileB
    · exact ib_dirA) (by decide)).mono ?_
  rintro e w7 ⟨n, rfl, hn, hb7⟩
  obtain rfl := chk_two hn
  have HB7 := Lib.hid (HB6.out.trans (hb7.mono HB6.out.size))
  have k7 := HK6'.out.below hb7 HK6'.out.lt
  have c0 : w7.cell? ⟨w.heap.size, 0, none⟩ = some (.string ⟨#[97]⟩) := k7.cell 0
  have c1 : w7.cell? ⟨w.heap.size, 1, none⟩ = some (.int .i64 1) := k7.cell 1
  have c2 : w7.cell? ⟨w.heap.size, 2, none⟩ = some (.int .i64 0) := k7.cell 2
  have c3 : w7.cell? ⟨w.heap.size, 3, none⟩ = some (.int .i64 0) := k7.cell 3
  have c4 : w7.cell? ⟨w.heap.size, 4, none⟩ = some (.string ⟨#[]⟩) := k7.cell 4
  clear hb7 hn k7 HA6 HK6' HB6 HK5 HK6 HB5 a0 a1 a2 a3 a4 b0 b1 b2 b3 b4
  have HA8 := Lib.hid (itm_new w7 [fileX, dirA] #[.string ⟨#[]⟩, .int .i64 2, .int .i64 0, .int .i64 0, .string ⟨#[120, 121, 122]⟩, .string ⟨#[97]⟩, .int .i64 1, .int .i64 0, .int .i64 0, .string ⟨#[]⟩] rfl)
  have HB8 := Lib.hid (HB7.out.alloc HB7.out.size (.cells #[.string ⟨#[]⟩, .int .i64 2, .int .i64 0, .int .i64 0, .string ⟨#[120, 121, 122]⟩, .string ⟨#[97]⟩, .int .i64 1, .int .i64 0, .int .i64 0, .string ⟨#[]⟩] 59))
  have HZ := Lib.hid size_three
  go_wp2_with fail
  refine (wsize_any (some ⟨w7.heap.size, 0, none⟩) 2 [fileX, dirA] _ HA8.out (by decide)).mono ?_
  rintro e w9 ⟨rfl, hb9⟩
  rw [HZ.out]
  have HB9 := Lib.hid (HB8.out.trans (hb9.mono HB8.out.size))
  clear hb9
  go_wp2
  go_ret
  exact ⟨rfl, HB9.out⟩
end Go.Proofs.YtaoejgnfoecpfaaDoor
