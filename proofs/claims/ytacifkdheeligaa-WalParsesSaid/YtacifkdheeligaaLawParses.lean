/- WalParses at every input. -/
import Derived.Test.YtacifkdheeligaaPe
import Derived.Test.YtacifkdheeligaaWe
namespace Go.Proofs.Ytacifkdheeligaa
open Go.RowKit Go.Maps

set_option maxHeartbeats 1600000 in
set_option maxRecDepth 100000 in
theorem parses_all (s r : ByteArray) (w : World) (hs : s.size ≤ 9223372036854775807) (hr : r.size ≤ 9223372036854775807) :
    Calls Try.prog 3 #[.string s, .string r] w fun e w' => e = .returned (.bool true) ∧ Below w.heap.size w w' := by
  have H1 := Lib.hid (fun w => few_any s 3000 w hs)
  have H2 := Lib.hid (fun w => few_any r 1000 w hr)
  have z1 := few_size s 3000
  have z2 := few_size r 1000
  generalize few s 3000 = s1 at H1 z1
  generalize few r 1000 = r1 at H2 z2
  have H3 := Lib.hid (fun w => parse_any s1 w (by omega))
  have H4 := Lib.hid (fun w => parse2_any s1 w (by omega))
  have H5 := Lib.hid awake15_any
  have H6 := Lib.hid (fun w => frame_any r1 w (by omega))
  have H7 := Lib.hid (fun w => frame2_any r1 w (by omega))
  have hl : (parse s1).1.length ≤ 1000000 := by
    have h : ∀ f p, (parseFrom s1 f p).1.length ≤ f := by
      intro f
      induction f with
      | zero => intro p; exact Nat.le_refl _
      | succ f ih =>
        intro p
        unfold parseFrom
        split
        · exact Nat.zero_le _
        · simp only [List.length_cons]; have := ih (p + 8 + ‹ByteArray›.size); omega
    exact Nat.le_trans (h 200 0) (by decide)
  generalize (parse s1).1 = l at H3 H4 hl
  generalize (parse s1).2 = n at H3 H4
  generalize frame r1 = fr at H6 H7
  go_enter Try.func3, Try.ntmps3
  go_wp2_with fail
  refine (H1.out _).mono ?_
  rintro e wq ⟨rfl, rfl⟩
  go_wp2_with fail
  refine (H2.out _).mono ?_
  rintro e wq ⟨rfl, rfl⟩
  go_wp2_with fail
  refine (H3.out _).mono ?_
  rintro e w1 ⟨v1, rfl, ho1, hb1⟩
  have HO1 := Lib.hid ho1
  clear ho1
  go_wp2_with fail
  refine (H4.out _).mono ?_
  rintro e w2 ⟨v2, rfl, ho2, hb2⟩
  have HO2 := Lib.hid ho2
  clear ho2
  go_wp2_with fail
  refine (H5.out _).mono ?_
  rintro e w3 ⟨rfl, hb3⟩
  have hr1 : RowStr w3 v1 l := RowStr.of (ownsRow_keep HO1.out (fun i hi => ((hb2.trans (hb3.mono hb2.size)).block i (ownsRow_lt HO1.out hi).2)))
  have hr2 : RowStr w3 v2 l := RowStr.of (ownsRow_keep HO2.out (fun i hi => (hb3.block i (ownsRow_lt HO2.out hi).2)))
  have HS := Lib.hid (same_any v1 v2 l l w3 hr1 hr2 hl hl)
  have hsi : sameI l l = 0 := if_pos rfl
  rw [hsi] at HS
  clear hr1 hr2
  go_wp2_with fail
  refine HS.out.mono ?_
  rintro e w4 ⟨rfl, nd, rfl⟩
  go_wp2_with fail
  refine (H6.out _).mono ?_
  rintro e w5 ⟨rfl, hb5⟩
  go_wp2_with fail
  refine (H7.out _).mono ?_
  rintro e w6 ⟨rfl, hb6⟩
  have hb4 : Below w3.heap.size w3 (w3.drewN nd) := ⟨rfl, rfl, rfl, Nat.le_refl _, fun _ _ => rfl⟩
  have z1 := hb1.size
  have z2 := hb2.size
  have z3 := hb3.size
  have z5 := hb5.size
  have z4 : (w3.drewN nd).heap.size = w3.heap.size := rfl
  have hall : Below w.heap.size w w6 := ((((hb1.trans (hb2.mono z1)).trans (hb3.mono (by omega))).trans (hb4.mono (by omega))).trans (hb5.mono (by omega))).trans (hb6.mono (by omega))
  have HALL := Lib.hid hall
  clear hall hb1 hb2 hb3 hb4 hb5 hb6
  go_wp2
  go_ret
  exact ⟨by simp, HALL.out⟩
end Go.Proofs.Ytacifkdheeligaa
