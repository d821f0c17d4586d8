/- WalFull at every input. -/
import Derived.Test.YtacifkdheeligaaLawFullA
import Derived.Test.YtacifkdheeligaaLawFullB
import Derived.Test.YtacifkdheeligaaLawFullC
namespace Go.Proofs.Ytacifkdheeligaa
open Go.RowKit Go.Maps


theorem full_all (n size room : Int) (w : World) :
    Calls Try.prog 4 #[.int .i64 n, .int .i64 size, .int .i64 room] w fun e w' => e = .returned (.bool true) ∧ Below w.heap.size w w' := by
  by_cases h : n < 0 ∨ 210 < n ∨ size < 0 ∨ 5001 < size ∨ 20000 < n * size ∨ room < 0 ∨ 3000 < room
  · exact full_out n size room w h
  · obtain ⟨N, rfl⟩ := Int.eq_ofNat_of_zero_le (show 0 ≤ n by omega)
    obtain ⟨S, rfl⟩ := Int.eq_ofNat_of_zero_le (show 0 ≤ size by omega)
    obtain ⟨R, rfl⟩ := Int.eq_ofNat_of_zero_le (show 0 ≤ room by omega)
    have hm : N * S ≤ 20000 := by
      have : ((N * S : Nat) : Int) ≤ 20000 := by rw [Int.natCast_mul]; omega
      omega
    by_cases h5 : S ≤ 5000
    · by_cases hf : S + 8 ≤ R
      · exact full_fit N S R w (by omega) (by omega) hm (by omega) h5 hf
      · exact full_not N S R w (by omega) (by omega) hm (by omega) h5 hf
    · exact full_big N S R w (by omega) (by omega) hm (by omega) (by omega)
end Go.Proofs.Ytacifkdheeligaa
