/- The laws' Few of a text; IndexReads. -/
import Derived.Test.YtopmanmjggcfaaaJg
import Derived.Test.YtopmanmjggcfaaaJi
namespace Go.Proofs.Ytopmanmjggcfaaa
open Go.RowKit

/-- cut to at most n bytes -/
def few (s : ByteArray) (n : Nat) : ByteArray := if s.size ≤ n then s else s.extract 0 n
theorem few_size (s : ByteArray) (n : Nat) : (few s n).size ≤ n := by
  unfold few
  split
  · assumption
  · rw [ByteArray.size_extract]; omega
set_option maxHeartbeats 400000 in
set_option maxRecDepth 100000 in
theorem few_any (s : ByteArray) (n : Nat) (w : World) (_hm : s.size ≤ 9223372036854775807) :
    Calls Try.prog 16 #[.string s, .int .i64 n] w fun e w' => e = .returned (.string (few s n)) ∧ w = w' := by
  by_cases h : s.size ≤ n
  · have HF := Lib.hid (show few s n = s from if_pos h)
    go_enter Try.func16, Try.ntmps16
    go_wp2
    go_ret
    exact ⟨ret_str HF.out.symm, rfl⟩
  · have HF := Lib.hid (show few s n = s.extract 0 n from if_neg h)
    go_enter Try.func16, Try.ntmps16
    go_wp2
    go_ret
    exact ⟨ret_str HF.out.symm, rfl⟩
theorem fit_wr {x : Ix} {s : ByteArray} (hf : x.Fit) (he : bs (encI x) = s) (hs : s.size ≤ 2000) : x.Wr ∧ x.places.length ≤ 1000000 ∧ x.packs.length ≤ 1000000 := by
  have hl : (encI x).length ≤ 2000 := by rw [← he] at hs; rwa [bs_size] at hs
  have h1 := encI_len x
  have hp : x.packs.length ≤ (packsL x.packs).length := by
    unfold packsL
    rw [List.length_flatten, List.map_map]
    have : ∀ l : List ByteArray, l.length ≤ (l.map (List.length ∘ textL)).sum := by
      intro l
      induction l with
      | nil => simp
      | cons y r ih =>
        have : 1 ≤ (textL y).length := by
          unfold textL
          have := (varF_len 10 y.size).1
          rw [List.length_append]
          have h2 : 1 ≤ (varL y.size).length := this
          omega
        simp only [List.map_cons, List.sum_cons, List.length_cons, Function.comp_apply]
        omega
    exact this _
  have hq : x.places.length ≤ (plsL x.packs x.places).length := by
    unfold plsL
    rw [List.length_flatten, List.map_map]
    have : ∀ l : List (ByteArray × Pl), l.length ≤ (l.map (List.length ∘ fun p => plL x.packs p.2)).sum := by
      intro l
      induction l with
      | nil => simp
      | cons y r ih =>
        have : 1 ≤ (plL x.packs y.2).length := by
          unfold plL textL
          have := (varF_len 10 y.2.head.name.size).1
          have h2 : 1 ≤ (varL y.2.head.name.size).length := this
          simp only [List.length_append]
          omega
        simp only [List.map_cons, List.sum_cons, List.length_cons, Function.comp_apply]
        omega
    exact this _
  have hnp : x.packs.length ≤ 1000000 := by omega
  have hnq : x.places.length ≤ 1000000 := by omega
  refine ⟨⟨hf.ok, hnp, hnq, fun t ht => Nat.le_trans (hf.sp t ht) (by decide), fun p hp => ⟨?_, (hf.hb p hp).2⟩, by omega⟩, hnq, hnp⟩
  rw [hf.ok.key p hp, name_size (hf.hb p hp).1]
  decide
set_option maxRecDepth 100000 in
set_option maxHeartbeats 3200000 in
theorem reads_all (s : ByteArray) (w : World) (hs : s.size ≤ 9223372036854775807) :
    Calls Try.prog 5 #[.string s] w fun e w' => e = .returned (.bool true) ∧ Below w.heap.size w w' := by
  have H1 := Lib.hid (few_any s 2000 w hs)
  have hz := few_size s 2000
  generalize few s 2000 = t at *
  have HD := Lib.hid fun W => idec_any t W (by omega)
  have HR := Lib.hid fun W => rread_any t W (by omega)
  have HA := Lib.hid fun W => awake_any W
  go_enter Try.func5, Try.ntmps5
  go_wp2_with fail
  refine H1.out.mono ?_
  rintro e w1 ⟨rfl, rfl⟩
  cases hdc : decI t with
  | none =>
    go_wp2_with fail
    refine (HD.out _).mono ?_
    rintro e w1 (⟨_, rfl, hb1⟩ | ⟨X, b, m, rb, h, _⟩)
    rotate_left
    · rw [hdc] at h; cases h
    have HB1 := Lib.hid hb1
    clear hb1
    go_wp2_with fail
    refine (HR.out _).mono ?_
    rintro e w2 (⟨_, ⟨A0, n0, c0, B0, m0, d0, rfl⟩, hb2⟩ | ⟨X, A, c, B, d, h, _⟩)
    rotate_left
    · rw [hdc] at h; cases h
    have HB2 := Lib.hid (HB1.out.trans (hb2.mono HB1.out.size) |>.alloc (Nat.le_trans HB1.out.size hb2.size) (.cells #[.slice A0 n0 c0, .slice B0 m0 d0] 43))
    clear hb2 hdc
    go_wp2_with fail
    refine (HA.out _).mono ?_
    rintro e w3 ⟨rfl, hb3⟩
    have HB3 := Lib.hid (HB2.out.trans (hb3.mono HB2.out.size))
    clear hb3
    go_wp2
    go_ret
    exact ⟨rfl, HB3.out⟩
  | some X =>
    obtain ⟨henc, hfit⟩ := decI_back (by omega) hdc
    obtain ⟨hwr, hnq, hnp⟩ := fit_wr hfit henc hz
    go_wp2_with fail
    refine (HD.out _).mono ?_
    rintro e w1 (⟨h, _⟩ | ⟨X', b, m, rb, h, rfl, hi1, hbl, hml, hrl, hb1⟩)
    · rw [hdc] at h; cases h
    obtain rfl : X = X' := by rw [hdc] at h; exact Option.some.inj h
    have HB1 := Lib.hid hb1
    have HI1 := Lib.hid hi1
    clear hb1 hi1 h hbl hml hrl
    go_wp2_with fail
    refine (HR.out _).mono ?_
    rintro e w2 (⟨h, _⟩ | ⟨X', A, c, B, d, h, rfl, hst, hro, hb2⟩)
    · rw [hdc] at h; cases h
    obtain rfl : X = X' := by rw [hdc] at h; exact Option.some.inj h
    have hba := (Below.refl w2.heap.size w2).alloc (Nat.le_refl _) (.cells #[.slice A X.packs.length c, .slice B (valsI X).length d] 43)
    have HI2 := Lib.hid ((HI1.out.below hb2).below hba)
    have HB2 := Lib.hid (HB1.out.trans ((hb2.trans (hba.mono hb2.size)).mono HB1.out.size))
    have HST := Lib.hid (StrsA.below hst hba)
    have HRO := Lib.hid (RowA.below hro hba)
    have HK2 := Lib.hid (Blk.new w2 43 #[.slice A X.packs.length c, .slice B (valsI X).length d])
    have HIS := Lib.hid fun W h1 h2 h3 => is_any b (some m) rb X A B c d W h1 h2 h3 hwr.ok hnp hnq (fun p hp => Nat.le_trans (hwr.sq p hp).1 (by decide))
    have HEN := Lib.hid fun W h => ienc_any b (some m) rb X W h hwr
    have HTE := Lib.hid henc
    clear hst hro hb2 hba h hdc hfit hwr henc
    unfold rixV at HIS ⊢
    go_upto_region 4 with fail
    generalize w2.alloc (.cells #[.slice A X.packs.length c, .slice B (valsI X).length d] 43) = w3 at *
    go_wp2_with fail
    refine (HA.out _).mono ?_
    rintro e w4 ⟨rfl, hb4⟩
    have HB4 := Lib.hid (HB2.out.trans (hb4.mono HB2.out.size))
    have HI4 := Lib.hid (HI2.out.below hb4)
    have HST4 := Lib.hid (StrsA.below HST.out hb4)
    have HRO4 := Lib.hid (RowA.below HRO.out hb4)
    have HK4 := Lib.hid (HK2.out.below hb4 HK2.out.lt)
    clear hb4 HB2 HI2 HST HRO HK2
    have k0 : w4.cell? ⟨w2.heap.size, 0, none⟩ = some (.slice A X.packs.length c) := HK4.out.cell 0
    have k1 : w4.cell? ⟨w2.heap.size, 1, none⟩ = some (.slice B (valsI X).length d) := HK4.out.cell 1
    go_wp2_with fail
    refine (HIS.out _ HI4.out HST4.out HRO4.out).mono ?_
    rintro e w5 ⟨rfl, hb5⟩
    have HB5 := Lib.hid (HB4.out.trans (hb5.mono HB4.out.size))
    have HI5 := Lib.hid (HI4.out.below hb5)
    clear hb5
    go_wp2_with fail
    refine (HEN.out _ HI5.out).mono ?_
    rintro e w6 ⟨rfl, hb6⟩
    have HB6 := Lib.hid (HB5.out.trans (hb6.mono HB5.out.size))
    rw [HTE.out]
    have hx : (t.toList == t.toList) = true := by simp
    clear hb6
    go_wp2
    go_ret
    exact ⟨rfl, HB6.out⟩
end Go.Proofs.Ytopmanmjggcfaaa
