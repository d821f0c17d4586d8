/- A merge in place: the library's walk, over any program that bears these bodies. The stable sort of a row: the library's walk, over any program that bears these bodies. -/
import Derived.Test.YtaoejgnfoecpfaaDoorJt2
import Derived.Deep.DeepCutAuto
namespace Go.Proofs.YtaoejgnfoecpfaaDoor
set_option linter.unusedVariables false
set_option linter.unusedSimpArgs false
set_option linter.unusedSectionVars false
open Go Go.RowKit Go.Sort

section
variable {P : Program} {α : Type} [Inhabited α]
theorem Base.at {enc : α → List Value} {k : Nat} {cf : α → α → Int} {g : Nat} {cb : Array Value} {blk off size : Nat} {w W : World} {dk : Array α} (B : Base P enc k cf g cb blk off size w) (h : SWm enc k w blk off dk W) (hs : dk.size = size) : Base P enc k cf g cb blk off size W where
  L := B.L
  hk := B.hk
  h1 := B.h1
  hS := B.hS
  eg := B.eg
  hcmp := by
    obtain ⟨q, os0, rfl⟩ := h
    intro m os d' hd x y
    rw [sortW_on enc k w blk off q m dk d' os0 os B.hblk (by omega)]
    exact B.hcmp (q + m) (os0 ++ os) d' hd x y
  hblk := B.lt h
  hsz := B.hsz
  hH := ⟨dk, hs, B.holds h hs⟩
set_option maxHeartbeats 8000000 in
set_option maxRecDepth 1000000 in
theorem sym_mid {k : Nat} {enc : α → List Value} {cf : α → α → Int} {g : Nat} {cb : Array Value} {blk off cap a m b : Nat} {d : Array α} {w : World} (B : Base P enc k cf g cb blk off d.size w) (hw : HoldsK enc k w blk off d) (ham : a + 1 < m) (hmb : m + 1 < b) (hb : b ≤ d.size)
    (h1 : SortedIn (ltOf cf) a m d) (h2 : SortedIn (ltOf cf) m b d)
    (ih : ∀ (a' m' b' : Nat) (dk : Array α) (W : World), b' - a' < b - a → SWm enc k w blk off dk W → dk.size = d.size → a' < m' → m' < b' → b' ≤ d.size → SortedIn (ltOf cf) a' m' dk → SortedIn (ltOf cf) m' b' dk →
      Calls P 152 #[.slice (some ⟨blk, off, none⟩) d.size cap, .int .i64 a', .int .i64 m', .int .i64 b', .func (.func g) #[] cb] W (SymPost enc k cf w blk off a' b' dk)) :
    Calls P 152 #[.slice (some ⟨blk, off, none⟩) d.size cap, .int .i64 a, .int .i64 m, .int .i64 b, .func (.func g) #[] cb] w (SymPost enc k cf w blk off a b d) := by
  have L := B.L
  have eg := B.eg
  have crot := L.crot
  have csym := L.csym
  have mixed := L.mixed; have t0 := L.t0; have a0 := L.a0; have z0 := L.z0; have v0 := L.v0; have t3 := L.t3; have a3 := L.a3; have z3 := L.z3; have v3 := L.v3; have t4 := L.t4; have a4 := L.a4; have z4 := L.z4; have v4 := L.v4; have tS := L.tS; have aS := L.aS; have zS := L.zS; have vS := L.vS; have aE := L.aE; have zE := L.zE; have tC := L.tC; have aC := L.aC; have zC := L.zC; have vC := L.vC; have tU := L.tU; have aU := L.aU; have zU := L.zU; have vU := L.vU
  have uS := run_underlying L.tS
  have BB := Lib.hid B
  have HST := Lib.hid (show SWm enc k w blk off d w from ⟨0, #[], by unfold sortWorldK; rw [grow_empty]; exact (putRowK_self enc k w blk off d hw).symm⟩)
  have HS := Lib.hid (And.intro h1 h2)
  have HI := Lib.hid ih
  have hsz := B.hsz
  clear B hw h1 h2 ih
  have HLe := Lib.hid L
  clear L
  have e1 : IntKind.i64.wrap ((m : Int) - (a : Int)) = (m : Int) - (a : Int) := by rw [IntKind.wrap_i64]; omega
  have e1b : ((m : Int) - (a : Int) == 1) = false := by rw [beq_eq_false_iff_ne]; omega
  have e2 : IntKind.i64.wrap ((b : Int) - (m : Int)) = (b : Int) - (m : Int) := by rw [IntKind.wrap_i64]; omega
  have e2b : ((b : Int) - (m : Int) == 1) = false := by rw [beq_eq_false_iff_ne]; omega
  have wab : IntKind.i64.wrap ((a : Int) + (b : Int)) = (a : Int) + (b : Int) := by rw [IntKind.wrap_i64]; omega
  have hmid : ((a : Int) + (b : Int)) / 2 = (((a + b) / 2 : Nat) : Int) := by omega
  obtain ⟨mid, hm0⟩ : ∃ mid, (a + b) / 2 = mid := ⟨_, rfl⟩
  have hm1 : 2 * mid ≤ a + b ∧ a + b ≤ 2 * mid + 1 := by omega
  rw [hm0] at hmid
  obtain ⟨n, hn0⟩ : ∃ n, mid + m = n := ⟨_, rfl⟩
  have wn : IntKind.i64.wrap ((mid : Int) + (m : Int)) = (n : Int) := by rw [IntKind.wrap_i64]; omega
  obtain ⟨p, hp0⟩ : ∃ p, n - 1 = p := ⟨_, rfl⟩
  have wp : IntKind.i64.wrap ((n : Int) - 1) = (p : Int) := by rw [IntKind.wrap_i64]; omega
  have hn1 : mid + m ≤ n ∧ n ≤ mid + m ∧ p + 1 ≤ n ∧ n ≤ p + 1 := by omega
  clear hm0 hn0 hp0
  go_enter HLe.out.fsym, Tryd.ntmps152
  go_upto_if 140 with fail
  go_cut [20, 21] (fun vs vr wc => ∃ (s0 r0 : Nat), vs = .int .i64 s0 ∧ vr = .int .i64 r0 ∧ a ≤ s0 ∧ s0 ≤ r0 ∧ r0 ≤ m ∧ r0 ≤ mid ∧ n ≤ b + s0 ∧ (s0 = a ∨ s0 + b = n) ∧ (r0 = m ∨ r0 = mid) ∧ w = wc)
  case first => as_aux_lemma =>
    by_cases hgt : mid < m
    · have hz : (mid : Int) < (m : Int) := by omega
      obtain ⟨s0, hs0⟩ : ∃ s0, n - b = s0 := ⟨_, rfl⟩
      have ws : IntKind.i64.wrap ((n : Int) - (b : Int)) = (s0 : Int) := by rw [IntKind.wrap_i64]; omega
      have hs1 : s0 + b ≤ n ∧ n ≤ s0 + b := by omega
      clear hs0
      go_wp2
      go_meet
      exact ⟨s0, mid, rfl, rfl, by omega, by omega, by omega, Nat.le_refl _, by omega, .inr (by omega), .inr rfl, rfl⟩
    · have hz : ¬ (mid : Int) < (m : Int) := by omega
      go_wp2
      go_meet
      exact ⟨a, m, rfl, rfl, Nat.le_refl _, by omega, Nat.le_refl _, by omega, by omega, .inl rfl, .inl rfl, rfl⟩
  case rest => as_aux_lemma =>
    obtain ⟨s0, r0, rfl, rfl, k1, k2, k3, k4, k5, k6, k7, rfl⟩ := hcut
    have K67 := Lib.hid (And.intro k6 k7)
    clear k6 k7
    go_wp2
    go_loopg [20, 21] (r0 - s0) (fun g1 vi vj wr => ∃ (s r : Nat), vi = .int .i64 s ∧ vj = .int .i64 r ∧ s0 ≤ s ∧ s ≤ r ∧ r ≤ r0 ∧ r - s ≤ g1 ∧ Hid (SWm enc k w blk off d wr) ∧ Hid ((s = s0 ∨ ltOf cf d[p - (s - 1)]! d[s - 1]! = false) ∧ (r = r0 ∨ ltOf cf d[p - r]! d[r]! = true)))
    case atStart => exact ⟨s0, r0, rfl, rfl, Nat.le_refl _, k2, Nat.le_refl _, Nat.le_refl _, HST, Lib.hid ⟨.inl rfl, .inl rfl⟩⟩
    case round =>
      clear HST
      obtain ⟨s, r, rfl, rfl, hmi, hij, hjb, hg1, SW, IV⟩ := hrel
      by_cases hlt : s < r
      · as_aux_lemma =>
        have hz : (s : Int) < (r : Int) := by omega
        have wz : IntKind.i64.wrap ((s : Int) + (r : Int)) = (s : Int) + (r : Int) := by rw [IntKind.wrap_i64]; omega
        have hh : ((s : Int) + (r : Int)) / 2 = (((s + r) / 2 : Nat) : Int) := by omega
        obtain ⟨h, hhd⟩ : ∃ h, (s + r) / 2 = h := ⟨_, rfl⟩
        have hb1 : s ≤ h ∧ h < r := by omega
        rw [hhd] at hh
        obtain ⟨c, hc0⟩ : ∃ c, p - h = c := ⟨_, rfl⟩
        have wc : IntKind.i64.wrap ((p : Int) - (h : Int)) = (c : Int) := by rw [IntKind.wrap_i64]; omega
        have hc1 : c < d.size := by omega
        have lh := BB.out.load SW.out rfl (x := h) (by omega)
        have la := BB.out.load SW.out rfl (x := c) hc1
        have hcg := BB.out.cmp SW.out rfl d[c]! d[h]!
        have jh : (h : Int) < (d.size : Int) := by omega
        have ja : (c : Int) < (d.size : Int) := by omega
        obtain ⟨xh, hxh⟩ : ∃ x, d[h]! = x := ⟨_, rfl⟩
        obtain ⟨xa, hxa⟩ : ∃ x, d[c]! = x := ⟨_, rfl⟩
        rw [hxh] at lh hcg
        rw [hxa] at la hcg
        have XX := Lib.hid (And.intro hxh (And.intro hxa hc0))
        clear hxh hxa hc0
        by_cases hlv : cf xa xh < 0
        · have hd : decide (cf xa xh < 0) = true := decide_eq_true hlv
          go_wp2_with fail
          go_quiet_grown (first | (go_at_fn g; refine Calls.grown_of (hcg _ _)))
          go_wp2
          go_roundg (h - s)
          case measure => omega
          case rel => exact ⟨s, h, rfl, by go_num, hmi, by omega, by omega, Nat.le_refl _, Lib.hid (SW.out.grown nq osq), Lib.hid ⟨IV.out.1, .inr (by rw [XX.out.2.2, XX.out.1, XX.out.2.1]; exact decide_eq_true hlv)⟩⟩
        · have hd : decide (cf xa xh < 0) = false := decide_eq_false (by omega)
          go_wp2_with fail
          go_quiet_grown (first | (go_at_fn g; refine Calls.grown_of (hcg _ _)))
          go_wp2
          go_roundg (r - (h + 1))
          case measure => omega
          case rel => exact ⟨h + 1, r, by go_num, rfl, by omega, by omega, hjb, Nat.le_refl _, Lib.hid (SW.out.grown nq osq), Lib.hid ⟨.inr (by rw [Nat.add_sub_cancel, XX.out.2.2, XX.out.1, XX.out.2.1]; exact decide_eq_false (by omega)), IV.out.2⟩⟩
      · as_aux_lemma =>
        obtain rfl : s = r := by omega
        have hz : ¬ (s : Int) < (s : Int) := by omega
        obtain ⟨e, he0⟩ : ∃ e, n - s = e := ⟨_, rfl⟩
        have we : IntKind.i64.wrap ((n : Int) - (s : Int)) = (e : Int) := by rw [IntKind.wrap_i64]; omega
        have he1 : e + s ≤ n ∧ n ≤ e + s := by omega
        have hme : m ≤ e := by omega
        have heb : e ≤ b := by omega
        have hQ := IV.out
        have hK := K67.out
        have Q1 := Lib.hid (show s = a ∨ e = b ∨ ltOf cf d[e]! d[s - 1]! = false by
          rcases hQ.1 with h | h
          · rcases hK.1 with h2 | h2
            · exact .inl (by omega)
            · exact .inr (.inl (by omega))
          · by_cases hsa : s = a
            · exact .inl hsa
            · have : p - (s - 1) = e := by omega
              rw [this] at h
              exact .inr (.inr h))
        have Q2 := Lib.hid (show s = m ∨ e = m ∨ ltOf cf d[e - 1]! d[s]! = true by
          rcases hQ.2 with h | h
          · rcases hK.2 with h2 | h2
            · exact .inl (by omega)
            · exact .inr (.inl (by omega))
          · have : p - s = e - 1 := by omega
            rw [this] at h
            exact .inr (.inr h))
        clear he0 hQ hK
        have hsm : s ≤ m := by omega
        have hsmid : s + (e - m) = mid := by omega
        have HSM := Lib.hid hsmid
        clear hsmid
        -- the turn
        obtain ⟨b1, hb1⟩ : ∃ b1 : Bool, b1 = (decide (s < m) && decide (m < e)) := ⟨_, rfl⟩
        have HB1 := Lib.hid hb1
        clear hb1
        go_upto_region 39 with fail
        go_cut [185] (fun v wc => v = .bool b1 ∧ wr = wc)
        case first => as_aux_lemma =>
          rcases (by omega : (¬ (s : Int) < m) ∨ ((s : Int) < m ∧ ¬ (m : Int) < e) ∨ ((s : Int) < m ∧ (m : Int) < e)) with q1 | ⟨q1, q2⟩ | ⟨q1, q2⟩
          · have HV := Lib.hid (show b1 = false by rw [HB1.out, decide_eq_false (by omega)]; rfl)
            go_wp2
            go_meet
            exact ⟨by rw [HV.out], rfl⟩
          · have HV := Lib.hid (show b1 = false by rw [HB1.out, decide_eq_false (p := m < e) (by omega), Bool.and_false])
            go_wp2
            go_meet
            exact ⟨by rw [HV.out], rfl⟩
          · have HV := Lib.hid (show b1 = true by rw [HB1.out, decide_eq_true (p := m < e) (by omega), decide_eq_true (p := s < m) (by omega)]; rfl)
            go_wp2
            go_meet
            exact ⟨by rw [HV.out], rfl⟩
        case rest => as_aux_lemma =>
          obtain ⟨rfl, rfl⟩ := hcut
          go_upto_if 185 with fail
          go_cut [] (fun wx => ∃ dk, Hid (SWm enc k w blk off dk wx) ∧ Hid (Rot s m e d dk))
          case first => as_aux_lemma =>
            cases b1 with
            | true =>
              have hq := HB1.out
              simp only [Bool.true_eq, Bool.and_eq_true, decide_eq_true_eq] at hq
              have HC := Lib.hid (rot_open HLe.out enc BB.out.hk BB.out.h1 s m e cap blk off (.func (.func g) #[] cb) d wr (BB.out.holds SW.out rfl) (BB.out.lt SW.out) hq.1 hq.2 (by omega) hsz)
              have HR := Lib.hid (show Rot s m e d (rotL m (m - s) (e - m) d) by
                have := rotL_rot m _ (m - s) (e - m) d (Nat.le_refl _) (by omega) (by omega) (by omega) (by omega)
                rwa [show m - (m - s) = s by omega, show m + (e - m) = e by omega] at this)
              clear hq
              go_wp2_with fail
              refine HC.out.mono ?_
              rintro e' w1 ⟨rfl, q1, rfl⟩
              go_wp2
              go_meet
              exact ⟨_, Lib.hid (BB.out.on SW.out HR.out.size ⟨q1, #[], rfl⟩), HR⟩
            | false =>
              have hq := HB1.out
              have HR := Lib.hid (show Rot s m e d d by
                by_cases h3 : s < m
                · have h4 : ¬ m < e := fun h4 => by rw [decide_eq_true h3, decide_eq_true h4] at hq; cases hq
                  obtain rfl : e = m := by omega
                  exact Rot.end_ s e d
                · obtain rfl : s = m := by omega
                  exact Rot.refl s e d)
              clear hq
              go_wp2
              go_meet
              exact ⟨d, SW, HR⟩
          case rest => as_aux_lemma =>
            obtain ⟨dk, SW2, RR⟩ := hcut
            have HC2 := Lib.hid (cut2 BB.out.hS (by omega) hsm hme heb HS.out.1 HS.out.2 RR.out Q1.out Q2.out)
            have hsk : dk.size = d.size := RR.out.size
            have PM := Lib.hid (show PermIn a b d dk from permIn_mono _ _ _ _ _ _ (by omega) heb (by omega) (RR.out.perm hsm hme (by omega)))
            have hc2 := HC2.out
            rw [HSM.out] at hc2
            have HC3 := Lib.hid hc2
            have hmb1 : a ≤ mid ∧ mid ≤ b ∧ s ≤ mid ∧ mid ≤ e := by omega
            clear hc2 HC2 RR
            -- the first half
            obtain ⟨b2, hb2⟩ : ∃ b2 : Bool, b2 = (decide (a < s) && decide (s < mid)) := ⟨_, rfl⟩
            have HB2 := Lib.hid hb2
            clear hb2
            go_upto_region 41 with fail
            go_cut [199] (fun v wy => v = .bool b2 ∧ wc = wy)
            case first => as_aux_lemma =>
              rcases (by omega : (¬ (a : Int) < s) ∨ ((a : Int) < s ∧ ¬ (s : Int) < mid) ∨ ((a : Int) < s ∧ (s : Int) < mid)) with q1 | ⟨q1, q2⟩ | ⟨q1, q2⟩
              · have HV := Lib.hid (show b2 = false by rw [HB2.out, decide_eq_false (by omega)]; rfl)
                go_wp2
                go_meet
                exact ⟨by rw [HV.out], rfl⟩
              · have HV := Lib.hid (show b2 = false by rw [HB2.out, decide_eq_false (p := s < mid) (by omega), Bool.and_false])
                go_wp2
                go_meet
                exact ⟨by rw [HV.out], rfl⟩
              · have HV := Lib.hid (show b2 = true by rw [HB2.out, decide_eq_true (p := s < mid) (by omega), decide_eq_true (p := a < s) (by omega)]; rfl)
                go_wp2
                go_meet
                exact ⟨by rw [HV.out], rfl⟩
            case rest => as_aux_lemma =>
              obtain ⟨rfl, rfl⟩ := hcut
              go_upto_if 199 with fail
              go_cut [] (fun wx => ∃ d2, Hid (SWm enc k w blk off d2 wx) ∧ Hid (PermIn a mid dk d2) ∧ Hid (SortedIn (ltOf cf) a mid d2))
              case first => as_aux_lemma =>
                cases b2 with
                | true =>
                  have hq := HB2.out
                  simp only [Bool.true_eq, Bool.and_eq_true, decide_eq_true_eq] at hq
                  have HC := Lib.hid (HI.out a s mid dk _ (by omega) SW2.out hsk hq.1 hq.2 (by omega) HC3.out.p1 HC3.out.p2)
                  clear hq
                  go_wp2_with fail
                  refine HC.out.mono ?_
                  rintro e' w1 ⟨rfl, d2, hw2, hp2, hs2⟩
                  go_wp2
                  go_meet
                  exact ⟨d2, Lib.hid hw2, Lib.hid hp2, Lib.hid hs2⟩
                | false =>
                  have hq := HB2.out
                  have HR := Lib.hid (show SortedIn (ltOf cf) a mid dk by
                    by_cases h3 : a < s
                    · have h4 : ¬ s < mid := fun h4 => by rw [decide_eq_true h3, decide_eq_true h4] at hq; cases hq
                      obtain rfl : s = mid := by omega
                      exact HC3.out.p1
                    · obtain rfl : a = s := by omega
                      exact HC3.out.p2)
                  clear hq
                  go_wp2
                  go_meet
                  exact ⟨dk, SW2, Lib.hid (permIn_refl dk a mid), HR⟩
              case rest => as_aux_lemma =>
                obtain ⟨d2, SW3, P2, S2⟩ := hcut
                have hs2 : d2.size = d.size := P2.out.1.trans hsk
                have HP3 := Lib.hid (show SortedIn (ltOf cf) mid e d2 ∧ SortedIn (ltOf cf) e b d2 from ⟨fun i j k1 k2 k3 => by rw [P2.out.2.1 i (by omega), P2.out.2.1 j (by omega)]; exact HC3.out.p3 i j k1 k2 k3, fun i j k1 k2 k3 => by rw [P2.out.2.1 i (by omega), P2.out.2.1 j (by omega)]; exact HC3.out.p4 i j k1 k2 k3⟩)
                have HX2 := Lib.hid (cross_perm (by omega) P2.out HC3.out.cross)
                -- the second half
                obtain ⟨b3, hb3⟩ : ∃ b3 : Bool, b3 = (decide (mid < e) && decide (e < b)) := ⟨_, rfl⟩
                have HB3 := Lib.hid hb3
                clear hb3
                go_upto_region 43 with fail
                go_cut [213] (fun v wy => v = .bool b3 ∧ wc = wy)
                case first => as_aux_lemma =>
                  rcases (by omega : (¬ (mid : Int) < e) ∨ ((mid : Int) < e ∧ ¬ (e : Int) < b) ∨ ((mid : Int) < e ∧ (e : Int) < b)) with q1 | ⟨q1, q2⟩ | ⟨q1, q2⟩
                  · have HV := Lib.hid (show b3 = false by rw [HB3.out, decide_eq_false (by omega)]; rfl)
                    go_wp2
                    go_meet
                    exact ⟨by rw [HV.out], rfl⟩
                  · have HV := Lib.hid (show b3 = false by rw [HB3.out, decide_eq_false (p := e < b) (by omega), Bool.and_false])
                    go_wp2
                    go_meet
                    exact ⟨by rw [HV.out], rfl⟩
                  · have HV := Lib.hid (show b3 = true by rw [HB3.out, decide_eq_true (p := e < b) (by omega), decide_eq_true (p := mid < e) (by omega)]; rfl)
                    go_wp2
                    go_meet
                    exact ⟨by rw [HV.out], rfl⟩
                case rest => as_aux_lemma =>
                  obtain ⟨rfl, rfl⟩ := hcut
                  cases b3 with
                  | true =>
                    have hq := HB3.out
                    simp only [Bool.true_eq, Bool.and_eq_true, decide_eq_true_eq] at hq
                    have HC := Lib.hid (HI.out mid e b d2 _ (by omega) SW3.out hs2 hq.1 hq.2 hb HP3.out.1 HP3.out.2)
                    clear hq
                    go_wp2_with fail
                    refine HC.out.mono ?_
                    rintro e' w1 ⟨rfl, d3, hw3, hp3, hs3⟩
                    have HF := Lib.hid (And.intro hw3 (And.intro hp3 hs3))
                    clear hw3 hp3 hs3
                    go_wp2
                    go_end0
                    obtain ⟨hw3, hp3, hs3⟩ := HF.out
                    refine ⟨rfl, d3, hw3, ?_, ?_⟩
                    · exact permIn_trans _ _ _ _ _ PM.out (permIn_trans _ _ _ _ _ (permIn_mono _ _ _ _ _ _ (Nat.le_refl _) hmb1.2.1 (by omega) P2.out) (permIn_mono _ _ _ _ _ _ hmb1.1 (Nat.le_refl _) (by omega) hp3))
                    · refine sorted_two (k := mid) (fun i j k1 k2 k3 => ?_) hs3 (cross_perm2 (by omega) hp3 HX2.out)
                      rw [hp3.2.1 i (by omega), hp3.2.1 j (by omega)]
                      exact S2.out i j k1 k2 k3
                  | false =>
                    have hq := HB3.out
                    have HR := Lib.hid (show SortedIn (ltOf cf) mid b d2 by
                      by_cases h3 : mid < e
                      · have h4 : ¬ e < b := fun h4 => by rw [decide_eq_true h3, decide_eq_true h4] at hq; cases hq
                        obtain rfl : e = b := by omega
                        exact HP3.out.1
                      · obtain rfl : mid = e := by omega
                        exact HP3.out.2)
                    clear hq
                    go_wp2
                    go_end0
                    refine ⟨rfl, d2, SW3.out, ?_, ?_⟩
                    · exact permIn_trans _ _ _ _ _ PM.out (permIn_mono _ _ _ _ _ _ (Nat.le_refl _) hmb1.2.1 (by omega) P2.out)
                    · exact sorted_two (k := mid) S2.out HR.out HX2.out
end
end Go.Proofs.YtaoejgnfoecpfaaDoor
namespace Go.Proofs.YtaoejgnfoecpfaaDoor
set_option linter.unusedVariables false
set_option linter.unusedSimpArgs false
set_option linter.unusedSectionVars false
open Go Go.RowKit Go.Sort

section
variable {P : Program} {α : Type} [Inhabited α]
/-- any merge of two rows in order -/
theorem sym_open {k : Nat} {enc : α → List Value} {cf : α → α → Int} {g : Nat} {cb : Array Value} {blk off cap size : Nat} {w : World} (B : Base P enc k cf g cb blk off size w) :
    ∀ (t a m b : Nat) (dk : Array α) (W : World), b - a ≤ t → SWm enc k w blk off dk W → dk.size = size → a < m → m < b → b ≤ size → SortedIn (ltOf cf) a m dk → SortedIn (ltOf cf) m b dk →
      Calls P 152 #[.slice (some ⟨blk, off, none⟩) size cap, .int .i64 a, .int .i64 m, .int .i64 b, .func (.func g) #[] cb] W (SymPost enc k cf w blk off a b dk)
  | 0, a, m, b, dk, W, ht, hW, hs, ham, hmb, hb, h1, h2 => absurd ht (by omega)
  | t + 1, a, m, b, dk, W, ht, hW, hs, ham, hmb, hb, h1, h2 => by
    have BW := B.at hW hs
    have hh := B.holds hW hs
    subst hs
    have lift : ∀ e w', SymPost enc k cf W blk off a b dk e w' → SymPost enc k cf w blk off a b dk e w' := fun e w' ⟨q1, d', q2, q3, q4⟩ => ⟨q1, d', B.on hW q3.1 q2, q3, q4⟩
    by_cases c1 : m = a + 1
    · subst c1
      exact (sym_left BW hh hmb hb h2).mono lift
    · by_cases c2 : b = m + 1
      · subst c2
        exact (sym_right BW hh (by omega) hb h1).mono lift
      · refine (sym_mid BW hh (by omega) (by omega) hb h1 h2 fun a' m' b' d2 W2 k1 k2 k3 k4 k5 k6 k7 k8 => ?_).mono lift
        have := sym_open (cap := cap) BW t a' m' b' d2 W2 (by omega) k2 k3 k4 k5 k6 k7 k8
        exact this
/-- the blocks of so many are in order -/
def BlkS (lt : α → α → Bool) (bs n : Nat) (d : Array α) : Prop := ∀ x, bs ∣ x → SortedIn lt x (min (x + bs) n) d
theorem sorted_same {lt : α → α → Bool} {a b : Nat} {d d' : Array α} (h : SortedIn lt a b d) (he : ∀ x, a ≤ x → x < b → d'[x]! = d[x]!) : SortedIn lt a b d' := fun i j k1 k2 k3 => by
  rw [he i k1 (by omega), he j (by omega) k3]
  exact h i j k1 k2 k3
theorem sorted_void {lt : α → α → Bool} {a b : Nat} (d : Array α) (h : b ≤ a) : SortedIn lt a b d := fun i j k1 k2 k3 => absurd k3 (by omega)
set_option maxHeartbeats 8000000 in
set_option maxRecDepth 1000000 in
theorem stable_open {k : Nat} {enc : α → List Value} {cf : α → α → Int} {g : Nat} {cb : Array Value} {blk off cap : Nat} {d : Array α} {w : World} (B : Base P enc k cf g cb blk off d.size w) (hw : HoldsK enc k w blk off d) (hsz : d.size ≤ 1152921504606846976)
    (hins : ∀ (a b : Nat) (dk : Array α) (W : World), SWm enc k w blk off dk W → dk.size = d.size → a ≤ b → b ≤ d.size → Calls P 151 #[.slice (some ⟨blk, off, none⟩) d.size cap, .int .i64 a, .int .i64 b, .func (.func g) #[] cb] W (SymPost enc k cf w blk off a b dk)) :
    Calls P 134 #[.slice (some ⟨blk, off, none⟩) d.size cap, .int .i64 d.size, .func (.func g) #[] cb] w (SymPost enc k cf w blk off 0 d.size d) := by
  have L := B.L
  have csym := L.csym
  have cins := L.cins
  have mixed := L.mixed; have t0 := L.t0; have a0 := L.a0; have z0 := L.z0; have v0 := L.v0; have t3 := L.t3; have a3 := L.a3; have z3 := L.z3; have v3 := L.v3; have t4 := L.t4; have a4 := L.a4; have z4 := L.z4; have v4 := L.v4; have tS := L.tS; have aS := L.aS; have zS := L.zS; have vS := L.vS; have aE := L.aE; have zE := L.zE; have tC := L.tC; have aC := L.aC; have zC := L.zC; have vC := L.vC; have tU := L.tU; have aU := L.aU; have zU := L.zU; have vU := L.vU
  have uS := run_underlying L.tS
  have BB := Lib.hid B
  have HST := Lib.hid (show SWm enc k w blk off d w from ⟨0, #[], by unfold sortWorldK; rw [grow_empty]; exact (putRowK_self enc k w blk off d hw).symm⟩)
  have HI := Lib.hid hins
  have HY := Lib.hid fun (a m b : Nat) (dk : Array α) (W : World) => sym_open (cap := cap) B (b - a) a m b dk W (Nat.le_refl _)
  clear B hw hins
  have HLe := Lib.hid L
  clear L
  generalize hn : d.size = n at *
  have HN := Lib.hid hn
  clear hn
  go_enter HLe.out.fsta, Tryd.ntmps134
  go_wp2
  go_loopg [7, 8] (n + 1) (fun g1 va vb wr => ∃ (a : Nat) (dk : Array α), va = .int .i64 a ∧ vb = .int .i64 (a + 20 : Nat) ∧ 20 ∣ a ∧ a ≤ n ∧ n + 1 - a ≤ g1 ∧ Hid (SWm enc k w blk off dk wr) ∧ Hid (PermIn 0 n d dk) ∧ Hid (∀ x, 20 ∣ x → x < a → SortedIn (ltOf cf) x (x + 20) dk))
  case atStart => exact ⟨0, d, rfl, rfl, by omega, Nat.zero_le _, by omega, HST, Lib.hid (permIn_refl d 0 n), Lib.hid fun x _ hx => absurd hx (by omega)⟩
  case round =>
    clear HST
    obtain ⟨a, dk, rfl, rfl, h20, han, hg1, SW, PM, BS⟩ := hrel
    have hsk : dk.size = n := PM.out.1.trans HN.out
    by_cases hlt : a + 20 ≤ n
    · as_aux_lemma =>
      have hz : ((a + 20 : Nat) : Int) ≤ (n : Int) := by omega
      have w1 : IntKind.i64.wrap (((a + 20 : Nat) : Int) + 20) = ((a + 20 + 20 : Nat) : Int) := by rw [IntKind.wrap_i64]; omega
      have HC := Lib.hid (HI.out a (a + 20) dk wr SW.out hsk (by omega) (by omega))
      obtain ⟨b, hb⟩ : ∃ b, a + 20 = b := ⟨_, rfl⟩
      have hb1 : a + 20 ≤ b ∧ b ≤ a + 20 := by omega
      rw [hb] at HC w1 hz ⊢
      have HB := Lib.hid hb
      clear hb
      go_wp2_with fail
      refine HC.out.mono ?_
      rintro e w2 ⟨rfl, d2, hw2, hp2, hs2⟩
      have HF := Lib.hid (And.intro hw2 (And.intro hp2 hs2))
      clear hw2 hp2 hs2
      go_wp2
      go_roundg (n + 1 - b)
      case measure => omega
      case rel =>
        obtain ⟨hw2, hp2, hs2⟩ := HF.out
        refine ⟨b, d2, rfl, by go_num, by omega, by omega, Nat.le_refl _, Lib.hid hw2, Lib.hid (permIn_trans _ _ _ _ _ PM.out (permIn_mono _ _ _ _ _ _ (Nat.zero_le _) (by omega) (by omega) hp2)), Lib.hid fun x h1 h2 => ?_⟩
        by_cases hx : x < a
        · exact sorted_same (BS.out x h1 hx) fun y k1 k2 => hp2.2.1 y (by omega)
        · obtain rfl : x = a := by omega
          rw [HB.out]
          exact hs2
    · as_aux_lemma =>
      have hz : ¬ ((a + 20 : Nat) : Int) ≤ (n : Int) := by omega
      have HC := Lib.hid (HI.out a n dk wr SW.out hsk han (Nat.le_refl _))
      obtain ⟨b, hb⟩ : ∃ b, a + 20 = b := ⟨_, rfl⟩
      have hb1 : n < a + 20 := by omega
      rw [hb] at hz ⊢
      clear hb
      go_wp2_with fail
      refine HC.out.mono ?_
      rintro e w2 ⟨rfl, d2, hw2, hp2, hs2⟩
      have hBS : BlkS (ltOf cf) 20 n d2 := fun x h1 => by
        by_cases hx : x < a
        · rw [Nat.min_eq_left (by omega)]
          exact sorted_same (BS.out x h1 hx) fun y k1 k2 => hp2.2.1 y (by omega)
        · by_cases hxa : x = a
          · subst hxa
            rw [Nat.min_eq_right (by omega)]
            exact hs2
          · exact sorted_void _ (by omega)
      have SW2 := Lib.hid hw2
      have PM2 := Lib.hid (permIn_trans _ _ _ _ _ PM.out (permIn_mono _ _ _ _ _ _ (Nat.zero_le _) (Nat.le_refl _) (by omega) hp2))
      have BS2 := Lib.hid hBS
      clear hw2 hp2 hs2 hBS PM SW BS HC hg1 h20 han hz hb1 hsk
      go_wp2
      go_loopg [6, 7, 8, 9] (n + 1) (fun g1 vs va vb vm wr => ∃ (bs : Nat) (dk : Array α) (ua ub um : Value), vs = .int .i64 bs ∧ va = ua ∧ vb = ub ∧ vm = um ∧ 1 ≤ bs ∧ bs ≤ 2305843009213693952 ∧ n + 1 - bs ≤ g1 ∧ Hid (SWm enc k w blk off dk wr) ∧ Hid (PermIn 0 n d dk) ∧ Hid (BlkS (ltOf cf) bs n dk))
      case atStart => exact ⟨20, d2, _, _, _, rfl, rfl, rfl, rfl, by omega, by omega, by omega, SW2, PM2, BS2⟩
      case round =>
        clear SW2 PM2 BS2
        obtain ⟨bs, dk, ua, ub, um, rfl, rfl, rfl, rfl, hbs, hbs2, hg2, SW, PM, BS⟩ := hrel
        have hsk : dk.size = n := PM.out.1.trans HN.out
        by_cases hlt : bs < n
        · as_aux_lemma =>
          have hz : (bs : Int) < (n : Int) := by omega
          have wd : IntKind.i64.wrap (2 * (bs : Int)) = ((2 * bs : Nat) : Int) := by rw [IntKind.wrap_i64]; omega
          have wd2 : IntKind.i64.wrap ((bs : Int) * 2) = ((2 * bs : Nat) : Int) := by rw [IntKind.wrap_i64]; omega
          obtain ⟨ds, hds⟩ : ∃ ds, 2 * bs = ds := ⟨_, rfl⟩
          have hds1 : 2 * bs ≤ ds ∧ ds ≤ 2 * bs := by omega
          rw [hds] at wd wd2
          have HD := Lib.hid hds
          clear hds
          go_wp2
          go_loopg [7, 8] (n + 1) (fun g1 va vb wr => ∃ (a b : Nat) (dk : Array α), va = .int .i64 a ∧ vb = .int .i64 b ∧ a + ds ≤ b ∧ b ≤ a + ds ∧ a ≤ n ∧ n + 1 - a ≤ g1 ∧ Hid (ds ∣ a) ∧ Hid (SWm enc k w blk off dk wr) ∧ Hid (PermIn 0 n d dk) ∧ Hid (∀ x, ds ∣ x → x < a → SortedIn (ltOf cf) x (x + ds) dk) ∧ Hid (∀ x, bs ∣ x → a ≤ x → SortedIn (ltOf cf) x (min (x + bs) n) dk))
          case atStart => exact ⟨0, ds, dk, rfl, rfl, by omega, by omega, Nat.zero_le _, by omega, Lib.hid (Nat.dvd_zero _), SW, PM, Lib.hid fun x _ hx => absurd hx (by omega), Lib.hid fun x h1 _ => BS.out x h1⟩
          case round =>
            clear SW PM BS hsk
            obtain ⟨a, b, dk, rfl, rfl, hb1, hb2, han, hg3, DV, SW, PM, B1, B2⟩ := hrel
            have hsk : dk.size = n := PM.out.1.trans HN.out
            have DB := Lib.hid (show bs ∣ a from Nat.dvd_trans ⟨2, by have := HD.out; omega⟩ DV.out)
            by_cases hbn : b ≤ n
            · as_aux_lemma =>
              have hz3 : (b : Int) ≤ (n : Int) := by omega
              have w3 : IntKind.i64.wrap ((a : Int) + (bs : Int)) = ((a + bs : Nat) : Int) := by rw [IntKind.wrap_i64]; omega
              have w4 : IntKind.i64.wrap ((b : Int) + (ds : Int)) = ((b + ds : Nat) : Int) := by rw [IntKind.wrap_i64]; omega
              have q1 := B2.out a DB.out (Nat.le_refl _)
              have q2 := B2.out (a + bs) (Nat.dvd_add DB.out (Nat.dvd_refl _)) (by omega)
              rw [Nat.min_eq_left (by omega)] at q1
              rw [show min (a + bs + bs) n = b by omega] at q2
              have HC := Lib.hid (HY.out a (a + bs) b dk wr SW.out hsk (by omega) (by omega) hbn q1 q2)
              clear q1 q2
              obtain ⟨m, hm⟩ : ∃ m, a + bs = m := ⟨_, rfl⟩
              obtain ⟨b5, hb5⟩ : ∃ b5, b + ds = b5 := ⟨_, rfl⟩
              have hb6 : b + ds ≤ b5 ∧ b5 ≤ b + ds := by omega
              rw [hm] at w3 HC
              rw [hb5] at w4
              clear hm hb5
              go_wp2_with fail
              refine HC.out.mono ?_
              rintro e w2 ⟨rfl, d2, hw2, hp2, hs2⟩
              have HF := Lib.hid (And.intro hw2 (And.intro hp2 hs2))
              clear hw2 hp2 hs2
              go_wp2
              go_roundg (n + 1 - b)
              case measure => omega
              case rel =>
                obtain ⟨hw2, hp2, hs2⟩ := HF.out
                refine ⟨b, b5, d2, rfl, rfl, by omega, by omega, hbn, Nat.le_refl _, Lib.hid ?_, Lib.hid hw2, Lib.hid (permIn_trans _ _ _ _ _ PM.out (permIn_mono _ _ _ _ _ _ (Nat.zero_le _) hbn (by omega) hp2)), Lib.hid fun x h1 h2 => ?_, Lib.hid fun x h1 h2 => ?_⟩
                · rw [show b = a + ds by omega]
                  exact Nat.dvd_add DV.out (Nat.dvd_refl _)
                · by_cases hx : x < a
                  · have : x + ds ≤ a := by
                      have := Nat.le_of_dvd (by omega) (Nat.dvd_sub DV.out h1)
                      omega
                    exact sorted_same (B1.out x h1 hx) fun y k1 k2 => hp2.2.1 y (by omega)
                  · by_cases hxa : x = a
                    · subst hxa
                      rw [show x + ds = b by omega]
                      exact hs2
                    · have := Nat.le_of_dvd (by omega) (Nat.dvd_sub h1 DV.out)
                      omega
                · exact sorted_same (B2.out x h1 (by omega)) fun y k1 k2 => hp2.2.1 y (by omega)
            · as_aux_lemma =>
              have hz3 : ¬ (b : Int) ≤ (n : Int) := by omega
              have w3 : IntKind.i64.wrap ((a : Int) + (bs : Int)) = ((a + bs : Nat) : Int) := by rw [IntKind.wrap_i64]; omega
              by_cases hmn : a + bs < n
              · have hz4 : ((a + bs : Nat) : Int) < (n : Int) := by omega
                have q1 := B2.out a DB.out (Nat.le_refl _)
                have q2 := B2.out (a + bs) (Nat.dvd_add DB.out (Nat.dvd_refl _)) (by omega)
                rw [Nat.min_eq_left (by omega)] at q1
                rw [Nat.min_eq_right (by omega)] at q2
                have HC := Lib.hid (HY.out a (a + bs) n dk wr SW.out hsk (by omega) hmn (Nat.le_refl _) q1 q2)
                clear q1 q2
                obtain ⟨m, hm⟩ : ∃ m, a + bs = m := ⟨_, rfl⟩
                rw [hm] at w3 HC hz4
                clear hm
                go_wp2_with fail
                refine HC.out.mono ?_
                rintro e w2 ⟨rfl, d2, hw2, hp2, hs2⟩
                have HF := Lib.hid (And.intro hw2 (And.intro hp2 hs2))
                clear hw2 hp2 hs2
                go_wp2
                go_roundg (n + 1 - ds)
                case measure => omega
                case rel =>
                  obtain ⟨hw2, hp2, hs2⟩ := HF.out
                  refine ⟨ds, d2, _, _, _, rfl, rfl, rfl, rfl, by omega, by omega, Nat.le_refl _, Lib.hid hw2, Lib.hid (permIn_trans _ _ _ _ _ PM.out (permIn_mono _ _ _ _ _ _ (Nat.zero_le _) (Nat.le_refl _) (by omega) hp2)), Lib.hid fun x h1 => ?_⟩
                  by_cases hx : x < a
                  · have : x + ds ≤ a := by
                      have := Nat.le_of_dvd (by omega) (Nat.dvd_sub DV.out h1)
                      omega
                    rw [Nat.min_eq_left (by omega)]
                    exact sorted_same (B1.out x h1 hx) fun y k1 k2 => hp2.2.1 y (by omega)
                  · by_cases hxa : x = a
                    · subst hxa
                      rw [Nat.min_eq_right (by omega)]
                      exact hs2
                    · have := Nat.le_of_dvd (by omega) (Nat.dvd_sub h1 DV.out)
                      exact sorted_void _ (by omega)
              · have hz4 : ¬ ((a + bs : Nat) : Int) < (n : Int) := by omega
                obtain ⟨m, hm⟩ : ∃ m, a + bs = m := ⟨_, rfl⟩
                rw [hm] at w3 hz4
                clear hm
                go_wp2
                go_roundg (n + 1 - ds)
                case measure => omega
                case rel =>
                  refine ⟨ds, dk, _, _, _, rfl, rfl, rfl, rfl, by omega, by omega, Nat.le_refl _, SW, PM, Lib.hid fun x h1 => ?_⟩
                  by_cases hx : x < a
                  · have : x + ds ≤ a := by
                      have := Nat.le_of_dvd (by omega) (Nat.dvd_sub DV.out h1)
                      omega
                    rw [Nat.min_eq_left (by omega)]
                    exact B1.out x h1 hx
                  · by_cases hxa : x = a
                    · subst hxa
                      have q1 := B2.out x DB.out (Nat.le_refl _)
                      rw [Nat.min_eq_right (by omega)] at q1 ⊢
                      exact q1
                    · have := Nat.le_of_dvd (by omega) (Nat.dvd_sub h1 DV.out)
                      exact sorted_void _ (by omega)
        · as_aux_lemma =>
          have hz : ¬ (bs : Int) < (n : Int) := by omega
          go_wp2
          go_end0
          refine ⟨rfl, dk, SW.out, PM.out, ?_⟩
          have := BS.out 0 (Nat.dvd_zero _)
          rwa [Nat.min_eq_right (by omega)] at this
end
end Go.Proofs.YtaoejgnfoecpfaaDoor
