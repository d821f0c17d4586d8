/- Packs on a disk: Publish walked. Packs on a disk: Is, Load. Packs on a disk: Load. -/
import Derived.Test.YtpeepdkeicgkiaaGreatDoorZo18
import Derived.Test.YtpeepdkeicgkiaaGreatDoorZo3
namespace Go.Proofs.YtpeepdkeicgkiaaGreatDoor
set_option linter.unusedVariables false
set_option linter.unusedSimpArgs false
set_option linter.unusedSectionVars false
open Go.RowKit Go.Maps

theorem str_eqb (a b : ByteArray) : (a.toList == b.toList) = decide (a = b) := by
  rw [Bool.eq_iff_iff, beq_iff_eq, decide_eq_true_eq, ba_toList, ba_toList]
  exact ⟨fun h => ByteArray.ext (Array.toList_inj.1 h), fun h => by rw [h]⟩
theorem beq0 {x : Int} (h : x = 0) : (x == 0) = true := by simp [h]
theorem bne0 {x : Int} (h : x = 0) : (x != 0) = false := by simp [h]
theorem beq0' {x : Int} (h : x ≠ 0) : (x == 0) = false := by simpa using h
theorem bne0' {x : Int} (h : x ≠ 0) : (x != 0) = true := by simpa using h
set_option maxRecDepth 100000 in
set_option maxHeartbeats 3200000 in
theorem publish_any (b : Nat) (D : Dk) (L : Lay) (name data : ByteArray) (w : World) (h : DiskAt w b D L) (hs : name.size ≤ 9223372036854775807) (hds : data.size ≤ 9223372036854775807) (hsm : D.small 300000) :
    Calls Tryz.prog 32 #[.pointer (some ⟨b, 0, none⟩), .string name, .string data] w fun e w' => e = .returned (.int .i64 (D.publish name data).2) ∧ DkPost b L (D.publish name data).1 w w' := by
  have HS := Lib.hid hs
  have HD := Lib.hid hds
  have HSM := Lib.hid hsm
  have HP := Lib.hid (show DkPost b L D w w from DkPost.of h (Below.refl _ _))
  have HR := Lib.hid (read_any b D L name w h hs)
  have HT := Lib.hid (show tmpN.size ≤ 9223372036854775807 by decide)
  clear h hs hds hsm
  go_enter Tryz.func32, Tryz.ntmps32
  go_wp2_with fail
  refine HR.out.mono ?_
  rintro e w1 ⟨rfl, rfl⟩
  clear HR
  generalize hr : (D.read name).2 = r at *
  generalize hq : (D.read name).1 = q at *
  have HQ := Lib.hid (And.intro hr hq)
  clear hr hq
  by_cases h10 : r = 10
  · have HU := Lib.hid (show D.publish name data = (D, 10) from by unfold Dk.publish; rw [if_pos (by rw [HQ.out.1]; exact h10)])
    subst h10
    go_wp2
    go_ret
    exact ⟨by rw [HU.out]; rfl, by rw [HU.out]; exact HP.out⟩
  have hb10 : (r == 10) = false := by simpa using h10
  by_cases hsame : r = 0 ∧ q = data
  · obtain ⟨rfl, rfl⟩ := hsame
    have hqq : (q.toList == q.toList) = true := by simp
    have HU := Lib.hid (show D.publish name q = (if (D.sync name).2 ≠ 0 then D.sync name else (D.sync name).1.settle) from by
      unfold Dk.publish
      rw [if_neg (by rw [HQ.out.1]; decide), if_pos HQ.out])
    have HC1 := Lib.hid (HP.out.call fun L1 h1 => sync_any b D L1 name w h1 HS.out)
    rcases hc1 : D.sync name with ⟨D1, c1⟩
    rw [hc1] at HC1
    have HE1 := Lib.hid hc1
    clear hc1
    simp only at HC1
    go_wp2_with fail
    refine HC1.out.mono ?_
    rintro e w1 ⟨rfl, hp1⟩
    have HP1 := Lib.hid hp1
    clear hp1 HC1
    rw [HE1.out] at HU
    by_cases h0 : c1 = 0
    · have HV := Lib.hid (show _ = D1.settle from HU.out.trans (if_neg (by simpa using h0)))
      clear HU
      subst h0
      have HC2 := Lib.hid (HP1.out.call fun L1 h1 => settle_any b D1 L1 _ h1)
      rcases hc2 : D1.settle with ⟨D2, c2⟩
      rw [hc2] at HC2
      have HE2 := Lib.hid hc2
      clear hc2
      simp only at HC2
      go_wp2_with fail
      refine HC2.out.mono ?_
      rintro e w2 ⟨rfl, hp2⟩
      have HP2 := Lib.hid hp2
      clear hp2 HC2
      have HU := Lib.hid (show _ = (D2, c2) from HV.out.trans HE2.out)
      go_wp2
      go_ret
      exact ⟨by rw [HU.out]; rfl, by rw [HU.out]; exact HP2.out⟩
    · have HV := Lib.hid (show _ = (D1, c1) from HU.out.trans (if_pos (by simpa using h0)))
      clear HU
      have HU := HV
      have hb := bne0' h0
      go_wp2
      go_ret
      exact ⟨by rw [HU.out]; rfl, by rw [HU.out]; exact HP1.out⟩
  · have HU := Lib.hid (show D.publish name data = D.pub1 name data from by
      unfold Dk.publish
      rw [if_neg (by rw [HQ.out.1]; exact h10), if_neg (by rw [HQ.out.1, HQ.out.2]; exact hsame)])
    have hw : (r = 0 ∧ (q.toList == data.toList) = false) ∨ r ≠ 0 := by
      by_cases h0 : r = 0
      · exact Or.inl ⟨h0, by rw [str_eqb]; exact decide_eq_false fun e => hsame ⟨h0, e⟩⟩
      · exact Or.inr h0
    have HSA := Lib.hid hsame
    have H10 := Lib.hid h10
    clear hsame h10
    rcases hw with ⟨rfl, hqd⟩ | h0
    rotate_left
    · have hb0 := beq0' h0
      have HRN := Lib.hid h0
      clear h0
      have HC1 := Lib.hid (HP.out.call fun L1 h1 => remove_any b D L1 tmpN _ h1 HT.out (Nat.le_trans HSM.out.2 (by decide)))
      rcases hc1 : D.remove tmpN with ⟨D1, c1⟩
      rw [hc1] at HC1
      have HE1 := Lib.hid hc1
      clear hc1
      simp only at HC1
      go_wp2_with fail
      refine HC1.out.mono ?_
      rintro e w1 ⟨rfl, hp1⟩
      have HP1 := Lib.hid hp1
      clear hp1 HC1
      have HS1 := Lib.hid (show D1.small 300001 from by have := small_remove HSM.out tmpN; rw [HE1.out] at this; exact this)
      have HU1 := Lib.hid (HU.out.trans (show D.pub1 name data = if c1 ≠ 0 ∧ c1 ≠ 7 then (D1, c1) else D1.pub2 name data from by unfold Dk.pub1; rw [HE1.out]))
      clear HU
      by_cases hx : c1 ≠ 0 ∧ c1 ≠ 7
      · obtain ⟨ha, hb⟩ := hx
        have HU := Lib.hid (HU1.out.trans (if_pos ⟨ha, hb⟩))
        clear HU1
        have n1 := bne0' ha
        have n2 : (c1 != 7) = true := by simpa using hb
        go_wp2
        go_ret
        exact ⟨by rw [HU.out]; rfl, by rw [HU.out]; exact HP1.out⟩
      have HU2 := Lib.hid (HU1.out.trans (if_neg hx))
      clear HU1
      rcases (show c1 = 0 ∨ (c1 ≠ 0 ∧ c1 = 7) by omega) with rfl | ⟨_, rfl⟩
      all_goals
        clear hx
        have HC2 := Lib.hid (HP1.out.call fun L1 h1 => append_any b D1 L1 tmpN data _ h1 HT.out HD.out (Nat.le_trans HS1.out.1 (by decide)) (Nat.le_trans HS1.out.2 (by decide)))
        rcases hc2 : D1.append tmpN data with ⟨D2, c2⟩
        rw [hc2] at HC2
        have HE2 := Lib.hid hc2
        clear hc2
        simp only at HC2
        go_wp2_with fail
        refine HC2.out.mono ?_
        rintro e w2 ⟨rfl, hp2⟩
        have HP2 := Lib.hid hp2
        clear hp2 HC2
        have HS2 := Lib.hid (show D2.small 300002 from by have := small_append HS1.out tmpN data; rw [HE2.out] at this; exact this)
        have HU3 := Lib.hid (HU2.out.trans (show D1.pub2 name data = if c2 ≠ 0 then (D2, c2) else D2.pub3 name from by unfold Dk.pub2; rw [HE2.out]))
        clear HU2
        by_cases hy : c2 ≠ 0
        · have HU := Lib.hid (HU3.out.trans (if_pos hy))
          clear HU3
          have n2 := bne0' hy
          go_wp2
          go_ret
          exact ⟨by rw [HU.out]; rfl, by rw [HU.out]; exact HP2.out⟩
        have HU4 := Lib.hid (HU3.out.trans (if_neg hy))
        clear HU3
        obtain rfl : c2 = 0 := by omega
        clear hy
        have HC3 := Lib.hid (HP2.out.call fun L1 h1 => sync_any b D2 L1 tmpN _ h1 HT.out)
        rcases hc3 : D2.sync tmpN with ⟨D3, c3⟩
        rw [hc3] at HC3
        have HE3 := Lib.hid hc3
        clear hc3
        simp only at HC3
        go_wp2_with fail
        refine HC3.out.mono ?_
        rintro e w3 ⟨rfl, hp3⟩
        have HP3 := Lib.hid hp3
        clear hp3 HC3
        have HS3 := Lib.hid (show D3.small 300002 from by have := small_sync HS2.out tmpN; rw [HE3.out] at this; exact this)
        have HU5 := Lib.hid (HU4.out.trans (show D2.pub3 name = if c3 ≠ 0 then (D3, c3) else D3.pub4 name from by unfold Dk.pub3; rw [HE3.out]))
        clear HU4
        by_cases hy : c3 ≠ 0
        · have HU := Lib.hid (HU5.out.trans (if_pos hy))
          clear HU5
          have n2 := bne0' hy
          go_wp2
          go_ret
          exact ⟨by rw [HU.out]; rfl, by rw [HU.out]; exact HP3.out⟩
        have HU6 := Lib.hid (HU5.out.trans (if_neg hy))
        clear HU5
        obtain rfl : c3 = 0 := by omega
        clear hy
        have HC4 := Lib.hid (HP3.out.call fun L1 h1 => rename_any b D3 L1 tmpN name _ h1 HT.out HS.out (Nat.le_trans HS3.out.2 (by decide)) (Nat.le_trans HS3.out.1 (by decide)))
        rcases hc4 : D3.rename tmpN name with ⟨D4, c4⟩
        rw [hc4] at HC4
        have HE4 := Lib.hid hc4
        clear hc4
        simp only at HC4
        go_wp2_with fail
        refine HC4.out.mono ?_
        rintro e w4 ⟨rfl, hp4⟩
        have HP4 := Lib.hid hp4
        clear hp4 HC4
        have HU7 := Lib.hid (HU6.out.trans (show D3.pub4 name = if c4 ≠ 0 then (D4, c4) else D4.settle from by unfold Dk.pub4; rw [HE4.out]))
        clear HU6
        by_cases hy : c4 ≠ 0
        · have HU := Lib.hid (HU7.out.trans (if_pos hy))
          clear HU7
          have n2 := bne0' hy
          go_wp2
          go_ret
          exact ⟨by rw [HU.out]; rfl, by rw [HU.out]; exact HP4.out⟩
        have HU8 := Lib.hid (HU7.out.trans (if_neg hy))
        clear HU7
        obtain rfl : c4 = 0 := by omega
        clear hy
        have HC5 := Lib.hid (HP4.out.call fun L1 h1 => settle_any b D4 L1 _ h1)
        rcases hc5 : D4.settle with ⟨D5, c5⟩
        rw [hc5] at HC5
        have HE5 := Lib.hid hc5
        clear hc5
        simp only at HC5
        go_wp2_with fail
        refine HC5.out.mono ?_
        rintro e w5 ⟨rfl, hp5⟩
        have HP5 := Lib.hid hp5
        clear hp5 HC5
        have HU := Lib.hid (HU8.out.trans HE5.out)
        go_wp2
        go_ret
        exact ⟨by rw [HU.out]; rfl, by rw [HU.out]; exact HP5.out⟩
    · have HC1 := Lib.hid (HP.out.call fun L1 h1 => remove_any b D L1 tmpN _ h1 HT.out (Nat.le_trans HSM.out.2 (by decide)))
      rcases hc1 : D.remove tmpN with ⟨D1, c1⟩
      rw [hc1] at HC1
      have HE1 := Lib.hid hc1
      clear hc1
      simp only at HC1
      go_wp2_with fail
      refine HC1.out.mono ?_
      rintro e w1 ⟨rfl, hp1⟩
      have HP1 := Lib.hid hp1
      clear hp1 HC1
      have HS1 := Lib.hid (show D1.small 300001 from by have := small_remove HSM.out tmpN; rw [HE1.out] at this; exact this)
      have HU1 := Lib.hid (HU.out.trans (show D.pub1 name data = if c1 ≠ 0 ∧ c1 ≠ 7 then (D1, c1) else D1.pub2 name data from by unfold Dk.pub1; rw [HE1.out]))
      clear HU
      by_cases hx : c1 ≠ 0 ∧ c1 ≠ 7
      · obtain ⟨ha, hb⟩ := hx
        have HU := Lib.hid (HU1.out.trans (if_pos ⟨ha, hb⟩))
        clear HU1
        have n1 := bne0' ha
        have n2 : (c1 != 7) = true := by simpa using hb
        go_wp2
        go_ret
        exact ⟨by rw [HU.out]; rfl, by rw [HU.out]; exact HP1.out⟩
      have HU2 := Lib.hid (HU1.out.trans (if_neg hx))
      clear HU1
      rcases (show c1 = 0 ∨ (c1 ≠ 0 ∧ c1 = 7) by omega) with rfl | ⟨_, rfl⟩
      all_goals
        clear hx
        have HC2 := Lib.hid (HP1.out.call fun L1 h1 => append_any b D1 L1 tmpN data _ h1 HT.out HD.out (Nat.le_trans HS1.out.1 (by decide)) (Nat.le_trans HS1.out.2 (by decide)))
        rcases hc2 : D1.append tmpN data with ⟨D2, c2⟩
        rw [hc2] at HC2
        have HE2 := Lib.hid hc2
        clear hc2
        simp only at HC2
        go_wp2_with fail
        refine HC2.out.mono ?_
        rintro e w2 ⟨rfl, hp2⟩
        have HP2 := Lib.hid hp2
        clear hp2 HC2
        have HS2 := Lib.hid (show D2.small 300002 from by have := small_append HS1.out tmpN data; rw [HE2.out] at this; exact this)
        have HU3 := Lib.hid (HU2.out.trans (show D1.pub2 name data = if c2 ≠ 0 then (D2, c2) else D2.pub3 name from by unfold Dk.pub2; rw [HE2.out]))
        clear HU2
        by_cases hy : c2 ≠ 0
        · have HU := Lib.hid (HU3.out.trans (if_pos hy))
          clear HU3
          have n2 := bne0' hy
          go_wp2
          go_ret
          exact ⟨by rw [HU.out]; rfl, by rw [HU.out]; exact HP2.out⟩
        have HU4 := Lib.hid (HU3.out.trans (if_neg hy))
        clear HU3
        obtain rfl : c2 = 0 := by omega
        clear hy
        have HC3 := Lib.hid (HP2.out.call fun L1 h1 => sync_any b D2 L1 tmpN _ h1 HT.out)
        rcases hc3 : D2.sync tmpN with ⟨D3, c3⟩
        rw [hc3] at HC3
        have HE3 := Lib.hid hc3
        clear hc3
        simp only at HC3
        go_wp2_with fail
        refine HC3.out.mono ?_
        rintro e w3 ⟨rfl, hp3⟩
        have HP3 := Lib.hid hp3
        clear hp3 HC3
        have HS3 := Lib.hid (show D3.small 300002 from by have := small_sync HS2.out tmpN; rw [HE3.out] at this; exact this)
        have HU5 := Lib.hid (HU4.out.trans (show D2.pub3 name = if c3 ≠ 0 then (D3, c3) else D3.pub4 name from by unfold Dk.pub3; rw [HE3.out]))
        clear HU4
        by_cases hy : c3 ≠ 0
        · have HU := Lib.hid (HU5.out.trans (if_pos hy))
          clear HU5
          have n2 := bne0' hy
          go_wp2
          go_ret
          exact ⟨by rw [HU.out]; rfl, by rw [HU.out]; exact HP3.out⟩
        have HU6 := Lib.hid (HU5.out.trans (if_neg hy))
        clear HU5
        obtain rfl : c3 = 0 := by omega
        clear hy
        have HC4 := Lib.hid (HP3.out.call fun L1 h1 => rename_any b D3 L1 tmpN name _ h1 HT.out HS.out (Nat.le_trans HS3.out.2 (by decide)) (Nat.le_trans HS3.out.1 (by decide)))
        rcases hc4 : D3.rename tmpN name with ⟨D4, c4⟩
        rw [hc4] at HC4
        have HE4 := Lib.hid hc4
        clear hc4
        simp only at HC4
        go_wp2_with fail
        refine HC4.out.mono ?_
        rintro e w4 ⟨rfl, hp4⟩
        have HP4 := Lib.hid hp4
        clear hp4 HC4
        have HU7 := Lib.hid (HU6.out.trans (show D3.pub4 name = if c4 ≠ 0 then (D4, c4) else D4.settle from by unfold Dk.pub4; rw [HE4.out]))
        clear HU6
        by_cases hy : c4 ≠ 0
        · have HU := Lib.hid (HU7.out.trans (if_pos hy))
          clear HU7
          have n2 := bne0' hy
          go_wp2
          go_ret
          exact ⟨by rw [HU.out]; rfl, by rw [HU.out]; exact HP4.out⟩
        have HU8 := Lib.hid (HU7.out.trans (if_neg hy))
        clear HU7
        obtain rfl : c4 = 0 := by omega
        clear hy
        have HC5 := Lib.hid (HP4.out.call fun L1 h1 => settle_any b D4 L1 _ h1)
        rcases hc5 : D4.settle with ⟨D5, c5⟩
        rw [hc5] at HC5
        have HE5 := Lib.hid hc5
        clear hc5
        simp only at HC5
        go_wp2_with fail
        refine HC5.out.mono ?_
        rintro e w5 ⟨rfl, hp5⟩
        have HP5 := Lib.hid hp5
        clear hp5 HC5
        have HU := Lib.hid (HU8.out.trans HE5.out)
        go_wp2
        go_ret
        exact ⟨by rw [HU.out]; rfl, by rw [HU.out]; exact HP5.out⟩
end Go.Proofs.YtpeepdkeicgkiaaGreatDoor
namespace Go.Proofs.YtpeepdkeicgkiaaGreatDoor
set_option linter.unusedVariables false
set_option linter.unusedSimpArgs false
set_option linter.unusedSectionVars false
open Go.RowKit Go.Maps

/-- front and a name -/
def isP (front name : ByteArray) : Bool := Lib.hasPrefix name.data.toList front.data.toList && isNameD ⟨(Lib.trimPrefix name.data.toList front.data.toList).toArray⟩
theorem trim_le (s p : List UInt8) : (Lib.trimPrefix s p).length ≤ s.length := by
  unfold Lib.trimPrefix
  split
  · simp
  · exact Nat.le_refl _
theorem trim_len {s p : List UInt8} (h : Lib.hasPrefix s p = true) : (Lib.trimPrefix s p).length = s.length - p.length := by
  unfold Lib.trimPrefix
  rw [h]
  simp
set_option maxRecDepth 100000 in
set_option maxHeartbeats 800000 in
theorem pis_any (front name : ByteArray) (w : World) (hs : name.size ≤ 140737488355328 + front.size) :
    Calls Tryz.prog 67 #[.string front, .string name] w fun e w' => e = .returned (.bool (isP front name)) ∧ Below w.heap.size w w' := by
  have HC := Lib.hid ((Tryz.strings_CutPrefix name front w).mono fun _ _ h => (show _ ∧ w = _ from ⟨h.1, h.2.symm⟩))
  have HI := Lib.hid fun W (hp : Lib.hasPrefix name.data.toList front.data.toList = true) => dis_any ⟨(Lib.trimPrefix name.data.toList front.data.toList).toArray⟩ W (by
    have := trim_len hp
    have e3 : front.data.toList.length = front.size := by simp
    have e : (⟨(Lib.trimPrefix name.data.toList front.data.toList).toArray⟩ : ByteArray).size = (Lib.trimPrefix name.data.toList front.data.toList).length := rfl
    have e2 : name.data.toList.length = name.size := by simp
    omega)
  have HP := Lib.hid (show isP front name = (Lib.hasPrefix name.data.toList front.data.toList && isNameD ⟨(Lib.trimPrefix name.data.toList front.data.toList).toArray⟩) from rfl)
  generalize isP front name = ans at *
  generalize (⟨(Lib.trimPrefix name.data.toList front.data.toList).toArray⟩ : ByteArray) = t at *
  generalize Lib.hasPrefix name.data.toList front.data.toList = hp at *
  go_enter Tryz.func67, Tryz.ntmps67
  go_wp2_with fail
  refine HC.out.mono ?_
  rintro e w1 ⟨rfl, rfl⟩
  cases hp with
  | false =>
    go_wp2
    go_ret
    exact ⟨by rw [HP.out]; rfl, Below.refl _ _⟩
  | true =>
    go_wp2_with fail
    refine (HI.out _ trivial).mono ?_
    rintro e w2 ⟨rfl, hb2⟩
    have HB := Lib.hid hb2
    clear hb2 HI
    go_wp2
    go_ret
    exact ⟨by rw [HP.out]; rfl, HB.out⟩
end Go.Proofs.YtpeepdkeicgkiaaGreatDoor
namespace Go.Proofs.YtpeepdkeicgkiaaGreatDoor
set_option linter.unusedVariables false
set_option linter.unusedSimpArgs false
set_option linter.unusedSectionVars false
open Go.RowKit Go.Maps

def Dk.load (D : Dk) (front name : ByteArray) : ByteArray × Int :=
  if isP front name = false then (⟨#[]⟩, 4) else
  if (D.read name).2 ≠ 0 then (⟨#[]⟩, (D.read name).2) else
  if front ++ nameS (D.read name).1 ≠ name then (⟨#[]⟩, 13) else ((D.read name).1, 0)
theorem read_le {D : Dk} (h : DkOk D) (name : ByteArray) : (D.read name).1.size ≤ 1073741824 := by
  unfold Dk.read
  split
  · exact Nat.zero_le _
  · split
    · next i _ => exact (flAt_le h i).1
    · exact Nat.zero_le _
set_option maxRecDepth 100000 in
set_option maxHeartbeats 1600000 in
theorem load_any (b : Nat) (D : Dk) (L : Lay) (front name : ByteArray) (w : World) (h : DiskAt w b D L) (hf : front.size ≤ 1099511627776) (hs : name.size ≤ 140737488355328 + front.size) :
    Calls Tryz.prog 36 #[.pointer (some ⟨b, 0, none⟩), .string front, .string name] w fun e w' => e = .returned (.tuple #[.string (D.load front name).1, .int .i64 (D.load front name).2]) ∧ Below w.heap.size w w' := by
  have HI := Lib.hid (pis_any front name w hs)
  have HH := Lib.hid h
  have HZ := Lib.hid (read_le h.ok name)
  have HS := Lib.hid hs
  clear h hs
  have HU := Lib.hid (show D.load front name = (if isP front name = false then (⟨#[]⟩, 4) else if (D.read name).2 ≠ 0 then (⟨#[]⟩, (D.read name).2) else if front ++ nameS (D.read name).1 ≠ name then (⟨#[]⟩, 13) else ((D.read name).1, 0)) from rfl)
  have HR := Lib.hid fun W (hb : Below w.heap.size w W) => read_any b D L name W (HH.out.below hb) (by have := HS.out; omega)
  have HN := Lib.hid fun W => dname_any (D.read name).1 W (by have := HZ.out; omega)
  have HNS := Lib.hid (nameS_size (D.read name).1)
  generalize isP front name = ip at *
  generalize D.load front name = ans at *
  generalize D.read name = rd at *
  obtain ⟨q, r⟩ := rd
  simp only at HU HR HN HZ HNS
  generalize nameS q = nm at *
  go_enter Tryz.func36, Tryz.ntmps36
  go_wp2_with fail
  refine HI.out.mono ?_
  rintro e w1 ⟨rfl, hb1⟩
  have HB1 := Lib.hid hb1
  clear hb1 HI
  cases ip with
  | false =>
    go_wp2
    go_ret2
    exact ⟨by rw [HU.out]; rfl, HB1.out⟩
  | true =>
    go_wp2_with fail
    refine (HR.out _ HB1.out).mono ?_
    rintro e w2 ⟨rfl, rfl⟩
    by_cases h0 : r = 0
    · subst h0
      have hsz := HNS.out
      have hz := HZ.out
      go_wp2_with fail
      refine (HN.out _).mono ?_
      rintro e w3 ⟨rfl, hb3⟩
      have HB3 := Lib.hid (HB1.out.trans (hb3.mono HB1.out.size))
      clear hb3 HN HR
      by_cases hq : front ++ nm = name
      · have hne : (!(front ++ nm).toList == name.toList) = false := by rw [str_eqb, decide_eq_true hq]; rfl
        have HU2 := Lib.hid (show ans = (q, 0) from by rw [HU.out]; simp [hq])
        clear hq HU
        go_wp2
        go_ret2
        exact ⟨by rw [HU2.out]; rfl, HB3.out⟩
      · have hne : (!(front ++ nm).toList == name.toList) = true := by rw [str_eqb, decide_eq_false hq]; rfl
        have HU2 := Lib.hid (show ans = (⟨#[]⟩, 13) from by rw [HU.out]; simp [hq])
        clear hq HU
        go_wp2
        go_ret2
        exact ⟨by rw [HU2.out]; rfl, HB3.out⟩
    · have hb := bne0' h0
      have HU2 := Lib.hid (show ans = (⟨#[]⟩, r) from by rw [HU.out]; simp [h0])
      clear HU
      go_wp2
      go_ret2
      exact ⟨by rw [HU2.out]; rfl, HB1.out⟩
end Go.Proofs.YtpeepdkeicgkiaaGreatDoor
