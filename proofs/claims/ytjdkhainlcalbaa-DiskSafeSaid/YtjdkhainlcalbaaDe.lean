/- A crash: what keeps says, and where it points. -/
import Derived.Test.YtjdkhainlcalbaaDd
namespace Go.Proofs.Ytjdkhainlcalbaa
open Go.RowKit Go.Maps

theorem tmod_between (x n : Int) (hn : 0 < n) : -n < x.tmod n ∧ x.tmod n < n := by
  refine ⟨?_, Int.tmod_lt_of_pos x hn⟩
  by_cases hx : 0 ≤ x
  · have := Int.tmod_nonneg n hx; omega
  · have h4 := Int.tmod_lt_of_pos (-x) hn
    rw [Int.neg_tmod] at h4; omega
theorem tmod_emod (x n : Int) (hn : 0 < n) : x % n = if x.tmod n < 0 then x.tmod n + n else x.tmod n := by
  obtain ⟨h3, h2⟩ := tmod_between x n hn
  have h1 : x = x.tmod n + n * x.tdiv n := (Int.tmod_add_mul_tdiv x n).symm
  have h4 : x % n = (x.tmod n) % n := by
    have h5 : (x.tmod n + n * x.tdiv n) % n = (x.tmod n) % n := Int.add_mul_emod_self_left _ _ _
    rw [← h1] at h5; exact h5
  rw [h4]
  split
  · rw [← Int.add_emod_right, Int.emod_eq_of_lt (by omega) (by omega)]
  · rw [Int.emod_eq_of_lt (by omega) (by omega)]

set_option maxHeartbeats 400000 in
set_option maxRecDepth 100000 in
theorem place_any (x n : Int) (w : World) (hx : -9223372036854775808 ≤ x ∧ x ≤ 9223372036854775807) (hn : 0 < n ∧ n ≤ 4611686018427387904) :
    Calls Try.prog 65 #[.int .i64 x, .int .i64 n] w fun e w' => e = .returned (.int .i64 (x % n)) ∧ w = w' := by
  have HE := Lib.hid (tmod_emod x n hn.1)
  obtain ⟨h3, h2⟩ := tmod_between x n hn.1
  obtain ⟨hx1, hx2⟩ := hx
  by_cases h : x.tmod n < 0
  · have HE := Lib.hid (show x % n = x.tmod n + n by rw [HE.out, if_pos h])
    go_enter Try.func65, Try.ntmps65
    go_wp2
    go_ret
    exact ⟨ret_int HE.out.symm, rfl⟩
  · have HE := Lib.hid (show x % n = x.tmod n by rw [HE.out, if_neg h])
    go_enter Try.func65, Try.ntmps65
    go_wp2
    go_ret
    exact ⟨ret_int HE.out.symm, rfl⟩

/-- what keeps says of a place -/
def sayI (ks : List Int) (i : Nat) : Int := if ks = [] then 0 else ks.getD (i % ks.length) 0
/-- a row of numbers, to be read -/
def RowInt (w : World) (v : Value) (l : List Int) : Prop :=
  ((∃ a c, v = .slice a 0 c) ∧ l = []) ∨ ∃ g o cap, v = .slice (some ⟨g, o, none⟩) l.length cap ∧ ∀ j (h : j < l.length), w.cell? ⟨g, o + j, none⟩ = some (.int .i64 l[j])

set_option maxHeartbeats 400000 in
set_option maxRecDepth 100000 in
theorem say_any (ks : List Int) (i bx : Nat) (v : Value) (w : World) (hv : RowInt w v ks) (hb : w.cell? ⟨bx, 0, none⟩ = some v) (_hi : i ≤ 4611686018427387904) (hl : ks.length ≤ 9223372036854775807) :
    Calls Try.prog 64 #[.int .i64 i, .pointer (some ⟨bx, 0, none⟩)] w fun e w' => e = .returned (.int .i64 (sayI ks i)) ∧ ∃ n, w' = w.drewN n := by
  rcases hv with ⟨⟨a, c, rfl⟩, rfl⟩ | ⟨g, o, cap, rfl, hc⟩
  · go_enter Try.func64, Try.ntmps64
    go_wp2
    go_ret
    exact ⟨rfl, 0, rfl⟩
  · by_cases h0 : ks.length = 0
    · have hks : ks = [] := List.length_eq_zero_iff.1 h0
      subst hks
      go_enter Try.func64, Try.ntmps64
      go_wp2
      go_ret
      exact ⟨rfl, 0, rfl⟩
    · have hm : i % ks.length < ks.length := Nat.mod_lt _ (by omega)
      have c1 := hc (i % ks.length) hm
      have HS : Hid (sayI ks i = ks[i % ks.length]) := by
        unfold Hid sayI
        rw [if_neg (by intro h; exact h0 (by rw [h]; rfl)), List.getD, List.getElem?_eq_getElem hm]; rfl
      have ht : ((i : Int).tmod (ks.length : Int)) = ((i % ks.length : Nat) : Int) := rfl
      clear hc
      generalize ks[i % ks.length] = x at c1 HS
      go_enter Try.func64, Try.ntmps64
      go_wp2
      go_quiet (fail)
      go_wp2
      go_ret
      exact ⟨ret_int HS.out.symm, nq, rfl⟩
end Go.Proofs.Ytjdkhainlcalbaa
