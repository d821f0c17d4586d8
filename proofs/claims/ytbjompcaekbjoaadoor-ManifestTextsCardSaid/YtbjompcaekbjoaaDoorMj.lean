/- Manifests: the document's take and text. -/
import Derived.Test.YtbjompcaekbjoaaDoorMg
import Derived.Test.YtbjompcaekbjoaaDoorVc
import Derived.Test.YtbjompcaekbjoaaDoorMc
namespace Go.Proofs.YtbjompcaekbjoaaDoor
open Go.RowKit

def tkR (s : ByteArray) : Nat × ByteArray × Bool := if (numS s false).2.2 = true then (0, ⟨#[]⟩, false) else ((numS s false).1, (numS s false).2.1, true)
def txO (s : ByteArray) : ByteArray × ByteArray × Bool := takS (numS s false).2.1 (numS s false).2.2 (numS s false).1
def txR (s : ByteArray) : ByteArray × ByteArray × Bool := if (txO s).2.2 = true then (⟨#[]⟩, ⟨#[]⟩, false) else ((txO s).1, (txO s).2.1, true)
set_option maxRecDepth 100000 in
set_option maxHeartbeats 800000 in
theorem rtake_any (s : ByteArray) (w : World) (hs : s.size ≤ 1099511627776) :
    Calls Tryd.prog 65 #[.string s] w fun e w' => e = .returned (.tuple #[.int .i64 (tkR s).1, .string (tkR s).2.1, .bool (tkR s).2.2]) ∧ Below w.heap.size w w' := by
  have HU := Lib.hid fun W => refunvar_any s W hs
  obtain ⟨l1, l2, l3⟩ := unvar_le s.data.toList
  rw [ba_len] at l1
  by_cases h : (unvarL s.data.toList).2 = 0 ∨ 1099511627776 < (unvarL s.data.toList).1
  · have HN := Lib.hid (show tkR s = (0, ⟨#[]⟩, false) by unfold tkR; rw [show numS s false = (0, s, true) from if_pos h]; rfl)
    generalize (unvarL s.data.toList).1 = x at *
    generalize (unvarL s.data.toList).2 = n at *
    clear l3
    have hq : ((n : Int) == 0) = true ∨ (((n : Int) == 0) = false ∧ (1099511627776 : Int) < (x : Int)) := by
      by_cases h0 : n = 0
      · exact .inl (by simp; omega)
      · exact .inr ⟨by simp; omega, by omega⟩
    clear h
    rcases hq with hq | ⟨hq, hq2⟩
    all_goals
      go_enter Tryd.func65, Tryd.ntmps65
      go_wp2_with fail
      refine (HU.out _).mono ?_
      rintro e w1 ⟨rfl, hb1⟩
      go_wp2
      refine bodyPost_ret (v := .tuple #[.int .i64 0, .string ⟨#[]⟩, .bool false]) (by simp [results, Tryd.results65, go_sem]) rfl ?_
      exact ⟨by rw [HN.out]; rfl, hb1⟩
  · have HN := Lib.hid (show tkR s = ((unvarL s.data.toList).1, s.extract (unvarL s.data.toList).2 s.size, true) by unfold tkR; rw [show numS s false = ((unvarL s.data.toList).1, s.extract (unvarL s.data.toList).2 s.size, false) from if_neg h]; rfl)
    generalize (unvarL s.data.toList).1 = x at *
    generalize (unvarL s.data.toList).2 = n at *
    clear l3
    have hq : ((n : Int) == 0) = false := by simp; omega
    have hq2 : decide ((1099511627776 : Int) < (x : Int)) = false := decide_eq_false (by omega)
    have hx : (x : Int) ≤ 1099511627776 := by omega
    have hn1 : (n : Int) ≤ (s.size : Int) := by omega
    clear h
    go_enter Tryd.func65, Tryd.ntmps65
    go_wp2_with fail
    refine (HU.out _).mono ?_
    rintro e w1 ⟨rfl, hb1⟩
    go_upto_region 4 with fail
    go_quiet (fail)
    go_wp2
    refine bodyPost_ret (v := .tuple #[.int .i64 x, .string (s.extract n s.size), .bool true]) (by simp [results, Tryd.results65, go_sem]) rfl ?_
    exact ⟨by rw [HN.out], below_drewN hb1 _⟩
set_option maxRecDepth 100000 in
set_option maxHeartbeats 800000 in
theorem rtxt_any (s : ByteArray) (w : World) (hs : s.size ≤ 1099511627776) :
    Calls Tryd.prog 66 #[.string s] w fun e w' => e = .returned (.tuple #[.string (txR s).1, .string (txR s).2.1, .bool (txR s).2.2]) ∧ Below w.heap.size w w' := by
  have HU := Lib.hid fun W => rtake_any s W hs
  rcases hn : numS s false with ⟨n, r, b⟩
  have hz := numS_le s false
  rw [hn] at hz
  simp only at hz
  cases b with
  | true =>
    have HN := Lib.hid (show txR s = (⟨#[]⟩, ⟨#[]⟩, false) by
      unfold txR txO
      rw [hn]
      simp only [takS_bad, if_true])
    have ht : tkR s = (0, ⟨#[]⟩, false) := by unfold tkR; rw [hn]; rfl
    rw [ht] at HU
    clear ht hn hz
    go_enter Tryd.func66, Tryd.ntmps66
    go_wp2_with fail
    refine (HU.out _).mono ?_
    rintro e w1 ⟨rfl, hb1⟩
    go_wp2
    refine bodyPost_ret (v := .tuple #[.string ⟨#[]⟩, .string ⟨#[]⟩, .bool false]) (by simp [results, Tryd.results66, go_sem]) rfl ?_
    exact ⟨by rw [HN.out], hb1⟩
  | false =>
    have ht : tkR s = (n, r, true) := by unfold tkR; rw [hn]; rfl
    rw [ht] at HU
    by_cases h : r.size < n
    · have HN := Lib.hid (show txR s = (⟨#[]⟩, ⟨#[]⟩, false) by
        unfold txR txO takS
        rw [hn]
        simp only [if_pos h, if_true])
      have hq : (r.size : Int) < (n : Int) := by omega
      clear ht hn h
      go_enter Tryd.func66, Tryd.ntmps66
      go_wp2_with fail
      refine (HU.out _).mono ?_
      rintro e w1 ⟨rfl, hb1⟩
      go_wp2
      refine bodyPost_ret (v := .tuple #[.string ⟨#[]⟩, .string ⟨#[]⟩, .bool false]) (by simp [results, Tryd.results66, go_sem]) rfl ?_
      exact ⟨by rw [HN.out], hb1⟩
    · have HN := Lib.hid (show txR s = (r.extract 0 n, r.extract n r.size, true) by
        unfold txR txO takS
        rw [hn]
        simp only [if_neg h]
        rfl)
      have hq : ¬ (r.size : Int) < (n : Int) := by omega
      clear ht hn h
      go_enter Tryd.func66, Tryd.ntmps66
      go_wp2_with fail
      refine (HU.out _).mono ?_
      rintro e w1 ⟨rfl, hb1⟩
      go_upto_region 4 with fail
      go_quiet (fail)
      go_wp2
      refine bodyPost_ret (v := .tuple #[.string (r.extract 0 n), .string (r.extract n r.size), .bool true]) (by simp [results, Tryd.results66, go_sem]) rfl ?_
      exact ⟨by rw [HN.out], below_drewN hb1 _⟩
end Go.Proofs.YtbjompcaekbjoaaDoor
