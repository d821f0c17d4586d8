/- Manifests: Same, the law's Few, a text's Few. -/
import Derived.Test.YtbjompcaekbjoaaDoorMe
import Derived.Maps.AppendAt
import Derived.WalkSmall
import Derived.Laws.AppendOwnNone
namespace Go.Proofs.YtbjompcaekbjoaaDoor
open Go.RowKit

def sameM (a b : Man) : Bool := decide (a.time = b.time) && decide (a.tag = b.tag) && decide (a.parent = b.parent) && decide (a.size = b.size) && decide (a.chunks = b.chunks)
theorem sameM_iff (a b : Man) : sameM a b = true ↔ a = b := by
  cases a; cases b
  simp [sameM, and_assoc]
set_option maxRecDepth 100000 in
set_option maxHeartbeats 400000 in
theorem sfew_any (s : ByteArray) (n : Nat) (w : World) (_hs : s.size ≤ 140737488355328) : Calls Tryd.prog 23 #[.string s, .int .i64 n] w fun e w' => e = .returned (.string (s.extract 0 n)) ∧ w = w' := by
  by_cases h : n < s.size
  · have h1 : (n : Int) < (s.size : Int) := by omega
    go_enter Tryd.func23, Tryd.ntmps23
    go_wp2
    go_ret
    exact ⟨rfl, rfl⟩
  · have h1 : ¬ (n : Int) < (s.size : Int) := by omega
    have HE := Lib.hid (show s.extract 0 n = s by
      apply ba_inj
      rw [ext_take, List.take_of_length_le (by rw [ba_len]; omega)])
    go_enter Tryd.func23, Tryd.ntmps23
    go_wp2
    go_ret
    exact ⟨ret_str HE.out.symm, rfl⟩
theorem txt_ne (a b : ByteArray) : (a.toList == b.toList) = decide (a = b) := by
  by_cases h : a = b
  · rw [h]; simp
  · rw [decide_eq_false h, beq_eq_false_iff_ne]
    exact fun e => h (bytes_eq e)
set_option maxRecDepth 100000 in
set_option maxHeartbeats 3200000 in
theorem msame_any (a b : Man) (A B : Option Addr) (c d : Nat) (w : World) (ha : StrsA w w.heap.size A a.chunks) (hb : StrsA w w.heap.size B b.chunks) (la : a.chunks.length ≤ 140737488355328) :
    Calls Tryd.prog 22 #[manV a A c, manV b B d] w fun e w' => e = .returned (.bool (sameM a b)) ∧ Below w.heap.size w w' := by
  have hb0 : Below w.heap.size w ((w.alloc (.cells #[.int .i64 a.time, .string a.tag, .string a.parent, .int .i64 a.size, .slice A a.chunks.length c] 30)).alloc (.cells #[.int .i64 b.time, .string b.tag, .string b.parent, .int .i64 b.size, .slice B b.chunks.length d] 30)) := ((Below.refl w.heap.size w).alloc (Nat.le_refl _) _).alloc (by simp) _
  have HB0 := Lib.hid hb0
  have HA := Lib.hid ha
  have HB := Lib.hid hb
  have HG := Lib.hid (show sameM a b = (decide (a.time = b.time) && decide (a.tag = b.tag) && decide (a.parent = b.parent) && decide (a.size = b.size) && decide (a.chunks = b.chunks)) from rfl)
  obtain ⟨t1, g1, p1, z1, l1⟩ := a
  obtain ⟨t2, g2, p2, z2, l2⟩ := b
  unfold manV
  simp only at *
  have q2 := txt_ne g1 g2
  have q3 := txt_ne p1 p2
  generalize sameM _ _ = r at *
  clear hb0 ha hb
  by_cases h1 : t1 = t2
  · have k1 : (t1 != t2) = false := by simp [h1]
    rw [decide_eq_true h1, Bool.true_and] at HG
    by_cases h2 : g1 = g2
    · rw [decide_eq_true h2] at q2 HG
      rw [Bool.true_and] at HG
      by_cases h3 : p1 = p2
      · rw [decide_eq_true h3] at q3 HG
        rw [Bool.true_and] at HG
        by_cases h4 : z1 = z2
        · have k4 : (z1 != z2) = false := by simp [h4]
          rw [decide_eq_true h4, Bool.true_and] at HG
          by_cases h5 : l1.length = l2.length
          · have k5 : ((l1.length : Int) != (l2.length : Int)) = false := by simp; omega
            have HL := Lib.hid h5
            clear h1 h2 h3 h4 h5
            go_enter Tryd.func22, Tryd.ntmps22
            go_wp2
            go_loopw [44] (fun t wr => ∃ k : Nat, t = .int .i64 (k : Nat) ∧ k ≤ l1.length ∧ l1.take k = l2.take k ∧ Blk wr w.heap.size 30 #[.int .i64 t1, .string g1, .string p1, .int .i64 z1, .slice A l1.length c] ∧ Blk wr (w.heap.size + 1) 30 #[.int .i64 t2, .string g2, .string p2, .int .i64 z2, .slice B l2.length d] ∧ Below w.heap.size w wr) (fun t _ => l1.length - (intOf t).toNat)
            case atStart =>
              refine ⟨0, rfl, Nat.zero_le _, rfl, (Blk.new w _ _).alloc _, ?_, HB0.out⟩
              have := Blk.new (w.alloc (.cells #[.int .i64 t1, .string g1, .string p1, .int .i64 z1, .slice A l1.length c] 30)) 30 #[.int .i64 t2, .string g2, .string p2, .int .i64 z2, .slice B l2.length d]
              rw [World.size_alloc] at this
              exact this
            case round =>
              obtain ⟨k, rfl, hk, hn, hb1, hb2, hbw⟩ := hrel
              have HN := Lib.hid hn
              have HB1 := Lib.hid hb1
              have HB2 := Lib.hid hb2
              have HBW := Lib.hid hbw
              clear hn hb1 hb2 hbw
              by_cases hkl : k < l1.length
              · obtain ⟨b1, o1, rfl, hl1, hc1⟩ := HA.out (by omega)
                obtain ⟨b2, o2, rfl, hl2, hc2⟩ := HB.out (by have := HL.out; omega)
                have hkl2 : k < l2.length := by have := HL.out; omega
                have hcx := (HBW.out.cell (p := ⟨b1, o1 + k, none⟩) hl1).trans (hc1 k l1[k] (List.getElem?_eq_getElem hkl))
                have hcy := (HBW.out.cell (p := ⟨b2, o2 + k, none⟩) hl2).trans (hc2 k l2[k] (List.getElem?_eq_getElem hkl2))
                have c4 : wr.cell? ⟨w.heap.size, 4, none⟩ = some (.slice (some ⟨b1, o1, none⟩) l1.length c) := HB1.out.cell 4
                have d4 : wr.cell? ⟨w.heap.size + 1, 4, none⟩ = some (.slice (some ⟨b2, o2, none⟩) l2.length d) := HB2.out.cell 4
                have HT1 := Lib.hid (List.take_succ_eq_append_getElem hkl)
                have HT2 := Lib.hid (List.take_succ_eq_append_getElem hkl2)
                have HEX := Lib.hid (show l1 = l2 → l1[k] = l2[k] from fun e => by subst e; rfl)
                have hk0 : (0 : Int) ≤ (k : Int) := by omega
                have hk1 : (k : Int) < (l1.length : Int) := by omega
                have hk2 : (k : Int) < (l2.length : Int) := by omega
                have hk3 : ((k : Int)).toNat = k := by omega
                clear hc1 hc2
                generalize l1[k] = x at *
                generalize l2[k] = y at *
                have q6 := txt_ne x y
                by_cases hxy : x = y
                · have HXY := Lib.hid hxy
                  rw [decide_eq_true hxy] at q6
                  clear hxy
                  go_upto_region 6 with fail
                  go_quiet (fail)
                  go_wp2
                  go_roundw
                  case rel => exact ⟨k + 1, by go_num, by omega, by rw [HT1.out, HT2.out, HN.out, HXY.out], HB1.out, HB2.out, by first | exact HBW.out | exact HBW.out.drew | exact below_drewN HBW.out _⟩
                  case measure => simp [intOf]; omega
                · have HXY := Lib.hid hxy
                  rw [decide_eq_false hxy] at q6
                  clear hxy
                  have HF := Lib.hid (show r = false by rw [HG.out]; exact decide_eq_false (fun e => HXY.out (HEX.out e)))
                  go_upto_region 6 with fail
                  go_quiet (fail)
                  go_wp2
                  go_ret
                  exact ⟨ret_bool HF.out.symm, by first | exact HBW.out | exact HBW.out.drew | exact below_drewN HBW.out _⟩
              · have HF := Lib.hid (show r = true by
                  rw [HG.out]
                  have h := HN.out
                  have hke : k = l1.length := by omega
                  rw [hke, List.take_length, HL.out, List.take_length] at h
                  exact decide_eq_true h)
                go_wp2
                go_ret
                exact ⟨ret_bool HF.out.symm, HBW.out⟩
          · rw [decide_eq_false (show ¬ l1 = l2 from fun e => h5 (by rw [e]))] at HG
            have k5 : ((l1.length : Int) != (l2.length : Int)) = true := by simp; omega
            clear h1 h2 h3 h4 h5
            go_enter Tryd.func22, Tryd.ntmps22
            go_wp2
            go_ret
            exact ⟨ret_bool (by simp [HG.out]), HB0.out⟩
        · rw [decide_eq_false h4] at HG
          have k4 : (z1 != z2) = true := by simpa using h4
          clear h1 h2 h3 h4
          go_enter Tryd.func22, Tryd.ntmps22
          go_wp2
          go_ret
          exact ⟨ret_bool (by simp [HG.out]), HB0.out⟩
      · rw [decide_eq_false h3] at q3 HG
        clear h1 h2 h3
        go_enter Tryd.func22, Tryd.ntmps22
        go_wp2
        go_ret
        exact ⟨ret_bool (by simp [HG.out]), HB0.out⟩
    · rw [decide_eq_false h2] at q2 HG
      clear h1 h2
      go_enter Tryd.func22, Tryd.ntmps22
      go_wp2
      go_ret
      exact ⟨ret_bool (by simp [HG.out]), HB0.out⟩
  · rw [decide_eq_false h1] at HG
    have k1 : (t1 != t2) = true := by simpa using h1
    clear h1
    go_enter Tryd.func22, Tryd.ntmps22
    go_wp2
    go_ret
    exact ⟨ret_bool (by simp [HG.out]), HB0.out⟩

/-- of at most 60 chunks -/
def fewM (m : Man) : Man := { m with chunks := m.chunks.take 60 }
def FewPost (m : Man) (w : World) (e : Ending) (w' : World) : Prop := ∃ A c, e = .returned (manV (fewM m) A c) ∧ StrsA w' w'.heap.size A (fewM m).chunks ∧ Below w.heap.size w w' ∧ (fewM m).chunks.length ≤ c ∧ ∀ b o, A = some ⟨b, o, none⟩ → 0 < (fewM m).chunks.length → w.heap.size ≤ b
def strsV (l : List ByteArray) : List Value := l.map Value.string
theorem own_strs {w : World} {B n c : Nat} {A : Option Addr} {l : List ByteArray} (h : w.ownsRow B 9 1 (.slice A n c) n (strsV l)) : StrsA w w.heap.size A l ∧ n = l.length := by
  have hn : n = l.length := by
    have := h.1
    simp [strsV] at this
    omega
  refine ⟨fun hl => ?_, hn⟩
  rcases h.2 with ⟨hv, _⟩ | ⟨g, cap, cur, hv, _⟩
  · simp at hv; omega
  · simp only [Value.slice.injEq] at hv
    obtain ⟨rfl, _, rfl⟩ := hv
    refine ⟨g, 0, rfl, (h.lt g rfl).2, fun j u hj => ?_⟩
    have hjl : j < l.length := (List.getElem?_eq_some_iff.1 hj).1
    rw [Nat.zero_add, h.cellAt j (by omega)]
    simp [strsV, hj]
theorem own_strs2 {w : World} {B n c : Nat} {A : Option Addr} {l : List ByteArray} (h : w.ownsRow B 9 1 (.slice A n c) n (strsV l)) (hl : 0 < l.length) : ∃ g, A = some ⟨g, 0, none⟩ ∧ B ≤ g ∧ g < w.heap.size ∧ ∀ (j : Nat) (u : ByteArray), l[j]? = some u → w.cell? ⟨g, 0 + j, none⟩ = some (.string u) := by
  have hn : n = l.length := by
    have := h.1
    simp [strsV] at this
    omega
  rcases h.2 with ⟨hv, _⟩ | ⟨g, cap, cur, hv, _⟩
  · simp at hv; omega
  · simp only [Value.slice.injEq] at hv
    obtain ⟨rfl, _, rfl⟩ := hv
    refine ⟨g, rfl, (h.lt g rfl).1, (h.lt g rfl).2, fun j u hj => ?_⟩
    have hjl : j < l.length := (List.getElem?_eq_some_iff.1 hj).1
    rw [Nat.zero_add, h.cellAt j (by omega)]
    simp [strsV, hj]
theorem own_form {w : World} {B n : Nat} {t : TypeId} {v : Value} {xs : List Value} (h : w.ownsRow B t 1 v n xs) : ∃ A c, v = .slice A n c ∧ n ≤ c := by
  rcases h.2 with ⟨hv, hn⟩ | ⟨g, cap, cur, hv, _, _, hc, _⟩
  · exact ⟨none, 0, by rw [hv, hn], by omega⟩
  · exact ⟨some ⟨g, 0, none⟩, cap, hv, hc⟩
theorem addr_add (b o j : Nat) : (⟨b, o, none⟩ : Addr).add j = ⟨b, o + j, none⟩ := by
  unfold Addr.add
  split <;> simp_all
set_option maxRecDepth 100000 in
set_option maxHeartbeats 1600000 in
theorem mfew_any (m : Man) (A : Option Addr) (c : Nat) (w : World) (hst : StrsA w w.heap.size A m.chunks) (hc : m.chunks.length ≤ c) (hA : A = none → m.chunks.length = 0 ∧ c = 0) (hm : c ≤ 140737488355328) :
    Calls Tryd.prog 15 #[manV m A c] w fun e w' => FewPost m w e w' := by
  have HST := Lib.hid hst
  have HAN := Lib.hid hA
  obtain ⟨tm, tag, par, sz, l⟩ := m
  unfold manV
  simp only at *
  clear hst hA
  cases A with
  | none =>
    obtain ⟨hl, hcz⟩ := HAN.out rfl
    have hnil : l = [] := List.eq_nil_of_length_eq_zero hl
    subst hnil
    subst hcz
    go_enter Tryd.func15, Tryd.ntmps15
    go_wp2
    refine bodyPost_ret (v := .agg #[.int .i64 tm, .string tag, .string par, .int .i64 sz, .slice (some ⟨w.heap.size + 1 + 1, 0, none⟩) 0 0]) (by simp [results, Tryd.results15, go_sem]) rfl ?_
    exact ⟨some ⟨w.heap.size + 1 + 1, 0, none⟩, 0, rfl, fun h => absurd h (by simp [fewM]), (((Below.refl _ w).alloc (Nat.le_refl _) _).alloc (by simp) _).alloc (by simp; omega) _, by simp [fewM], fun b o _ h => absurd h (by simp [fewM])⟩
  | some ad =>
    have hown : (((w.alloc (.cells #[.int .i64 tm, .string tag, .string par, .int .i64 sz, .slice (some ad) l.length c] 24)).alloc (.cells #[.int .i64 0, .string ⟨#[]⟩, .string ⟨#[]⟩, .int .i64 0, .slice none 0 0] 24)).alloc (.cells #[] 9)).ownsRow (w.heap.size + 2) 9 1 (.slice (some ⟨w.heap.size + 1 + 1, 0, none⟩) 0 0) 0 [] := by
      have := World.ownsRow_lit (e := 9) (size := 1) (base := w.heap.size + 2) ((w.alloc (.cells #[.int .i64 tm, .string tag, .string par, .int .i64 sz, .slice (some ad) l.length c] 24)).alloc (.cells #[.int .i64 0, .string ⟨#[]⟩, .string ⟨#[]⟩, .int .i64 0, .slice none 0 0] 24)) #[] 0 (by simp) (by decide) rfl
      rw [World.size_alloc, World.size_alloc] at this
      exact this
    obtain ⟨i0, hi0, hz0, hz1, hz2⟩ := info_parts infoS
    have HB3 := Lib.hid ((((Below.refl w.heap.size w).alloc (Nat.le_refl _) (.cells #[.int .i64 tm, .string tag, .string par, .int .i64 sz, .slice (some ad) l.length c] 24)).alloc (by simp) (.cells #[.int .i64 0, .string ⟨#[]⟩, .string ⟨#[]⟩, .int .i64 0, .slice none 0 0] 24)).alloc (by simp; omega) (.cells #[] 9))
    have HBX := Lib.hid (((Blk.new w 24 #[.int .i64 tm, .string tag, .string par, .int .i64 sz, .slice (some ad) l.length c]).alloc (.cells #[.int .i64 0, .string ⟨#[]⟩, .string ⟨#[]⟩, .int .i64 0, .slice none 0 0] 24)).alloc (.cells #[] 9))
    have hrx := (Blk.new (w.alloc (.cells #[.int .i64 tm, .string tag, .string par, .int .i64 sz, .slice (some ad) l.length c] 24)) 24 #[.int .i64 0, .string ⟨#[]⟩, .string ⟨#[]⟩, .int .i64 0, .slice none 0 0]).alloc (.cells #[] 9)
    rw [World.size_alloc] at hrx
    have HRX := Lib.hid hrx
    clear hrx
    have HNEWS := Lib.hid (show ∀ W, Below w.heap.size w W → ∀ (j : Nat) u, (strsV (l.take 60))[j]? = some u → W.cell? (ad.add j) = some u from fun W hW j u hj => by
      have hl : j < (l.take 60).length := by
        have := (List.getElem?_eq_some_iff.1 hj).1
        simpa [strsV] using this
      rw [List.length_take] at hl
      obtain ⟨b, o, h1, h2, h3⟩ := HST.out (by omega)
      injection h1 with h1
      subst h1
      rw [addr_add]
      simp only [strsV, List.getElem?_map] at hj
      have hx : (l.take 60)[j]? = some l[j] := by
        rw [List.getElem?_take, if_pos (by omega), List.getElem?_eq_getElem (by omega)]
      rw [hx] at hj
      simp only [Option.map_some, Option.some.injEq] at hj
      subst hj
      exact (hW.cell (p := ⟨b, o + j, none⟩) h2).trans (h3 j l[j] (List.getElem?_eq_getElem (by omega))))
    by_cases h60 : l.length ≤ 60
    · have h1 : ¬ (60 : Int) < (l.length : Int) := by omega
      have HLEN := Lib.hid (show (strsV (l.take 60)).length = l.length * 1 by simp [strsV]; omega)
      go_enter Tryd.func15, Tryd.ntmps15
      go_wp2_with (at_builtin; refine wpList_append_own_at _ rfl _ _ 22 rfl (w.heap.size + 2) 9 i0 _ 1 16 Tryd.underlying22 hi0 hz0 hz1 hz2 rfl (by decide) (.slice (some ⟨w.heap.size + 1 + 1, 0, none⟩) 0 0) 0 [] rfl hown ad l.length c (strsV (l.take 60)) rfl ?_ ?_ ?_ ?_ ?_ ?_ ?_; (exact HLEN.out); (intro j u hj; exact HNEWS.out _ HB3.out j u hj); (intro u hu; simp only [strsV, List.mem_map] at hu; obtain ⟨x, _, rfl⟩ := hu; rfl); (unfold maxLen; omega); omega; (simp); intro v' w5 hown5 hg5 _ hat; rw [Nat.zero_add, List.nil_append] at hown5; obtain ⟨A', c', rfl, hle⟩ := own_form hown5; have hB := (HBX.out.grown hg5 (by simp [Value.ownBlock] <;> omega)); have hR := (HRX.out.grown hg5 (by simp [Value.ownBlock] <;> omega)); have hlow : Below w.heap.size w w5 := HB3.out.grown hg5 (by simp; omega) (fun k hk => by simp [Value.ownBlock] at hk; omega); have f4 := hB.frozen 4; have c4 : w5.cell? ⟨w.heap.size, 4, none⟩ = some (.slice (some ad) l.length c) := hB.cell 4; have HSB := Lib.hid (hB.set_ 4 (.slice A' l.length c')); have HSR := Lib.hid (hR.far (p := ⟨w.heap.size, 4, none⟩) (by simp) (.slice A' l.length c')); have k0 : (w5.setCell ⟨w.heap.size, 4, none⟩ (.slice A' l.length c')).cell? ⟨w.heap.size, 0, none⟩ = some (.int .i64 tm) := HSB.out.cell 0; have k1 : (w5.setCell ⟨w.heap.size, 4, none⟩ (.slice A' l.length c')).cell? ⟨w.heap.size, 1, none⟩ = some (.string tag) := HSB.out.cell 1; have k2 : (w5.setCell ⟨w.heap.size, 4, none⟩ (.slice A' l.length c')).cell? ⟨w.heap.size, 2, none⟩ = some (.string par) := HSB.out.cell 2; have k3 : (w5.setCell ⟨w.heap.size, 4, none⟩ (.slice A' l.length c')).cell? ⟨w.heap.size, 3, none⟩ = some (.int .i64 sz) := HSB.out.cell 3; have k4 : (w5.setCell ⟨w.heap.size, 4, none⟩ (.slice A' l.length c')).cell? ⟨w.heap.size, 4, none⟩ = some (.slice A' l.length c') := HSB.out.cell 4; have r0 : (w5.setCell ⟨w.heap.size, 4, none⟩ (.slice A' l.length c')).cell? ⟨w.heap.size + 1, 0, none⟩ = some (.int .i64 0) := HSR.out.cell 0; have s0 : w5.frozen? ⟨w.heap.size + 1, 0, none⟩ = false := hR.frozen 0; have r1 : (w5.setCell ⟨w.heap.size, 4, none⟩ (.slice A' l.length c')).cell? ⟨w.heap.size + 1, 1, none⟩ = some (.string ⟨#[]⟩) := HSR.out.cell 1; have s1 : w5.frozen? ⟨w.heap.size + 1, 1, none⟩ = false := hR.frozen 1; have r2 : (w5.setCell ⟨w.heap.size, 4, none⟩ (.slice A' l.length c')).cell? ⟨w.heap.size + 1, 2, none⟩ = some (.string ⟨#[]⟩) := HSR.out.cell 2; have s2 : w5.frozen? ⟨w.heap.size + 1, 2, none⟩ = false := hR.frozen 2; have r3 : (w5.setCell ⟨w.heap.size, 4, none⟩ (.slice A' l.length c')).cell? ⟨w.heap.size + 1, 3, none⟩ = some (.int .i64 0) := HSR.out.cell 3; have s3 : w5.frozen? ⟨w.heap.size + 1, 3, none⟩ = false := hR.frozen 3; have r4 : (w5.setCell ⟨w.heap.size, 4, none⟩ (.slice A' l.length c')).cell? ⟨w.heap.size + 1, 4, none⟩ = some (.slice none 0 0) := HSR.out.cell 4; have s4 : w5.frozen? ⟨w.heap.size + 1, 4, none⟩ = false := hR.frozen 4)
      obtain ⟨hs5, hn5⟩ := own_strs (l := l.take 60) hown5
      refine bodyPost_ret (v := .agg #[.int .i64 tm, .string tag, .string par, .int .i64 sz, .slice A' l.length c']) (by simp [results, Tryd.results15, go_sem, r0, r1, r2, r3, r4]) rfl ?_
      refine ⟨A', c', ?_, ?_, ?_, ?_, ?_⟩
      · exact congrArg (fun n => Ending.returned (.agg #[.int .i64 tm, .string tag, .string par, .int .i64 sz, .slice A' n c'])) hn5
      · intro hl
        obtain ⟨g, rfl, hg1, hg2, hgc⟩ := own_strs2 hown5 hl
        refine ⟨g, 0, rfl, by simp; exact hg2, fun j u hj => ?_⟩
        rw [← hgc j u hj]
        refine World.cell?_of_block ?_
        rw [Below.heap_setCell _ _ _ _ (by simp; omega), Below.heap_setCell _ _ _ _ (by simp; omega), Below.heap_setCell _ _ _ _ (by simp; omega), Below.heap_setCell _ _ _ _ (by simp; omega), Below.heap_setCell _ _ _ _ (by simp; omega), Below.heap_setCell _ _ _ _ (by simp; omega)]
      · exact (((((hlow.setCell (p := ⟨w.heap.size, 4, none⟩) (Nat.le_refl _) _).setCell (p := ⟨w.heap.size + 1, 0, none⟩) (Nat.le_succ _) _).setCell (p := ⟨w.heap.size + 1, 1, none⟩) (Nat.le_succ _) _).setCell (p := ⟨w.heap.size + 1, 2, none⟩) (Nat.le_succ _) _).setCell (p := ⟨w.heap.size + 1, 3, none⟩) (Nat.le_succ _) _).setCell (p := ⟨w.heap.size + 1, 4, none⟩) (Nat.le_succ _) _
      · show (l.take 60).length ≤ c'
        rw [← hn5]; exact hle
      · intro b o e hl
        obtain ⟨g, e2, hg1, _⟩ := own_strs2 hown5 hl
        rw [e] at e2
        injection e2 with e2
        injection e2 with e2
        omega
    · have h1 : (60 : Int) < (l.length : Int) := by omega
      have h2 : (60 : Int) ≤ (c : Int) := by omega
      have HLEN := Lib.hid (show (strsV (l.take 60)).length = 60 * 1 by simp [strsV]; omega)
      go_enter Tryd.func15, Tryd.ntmps15
      go_wp2_with (at_builtin; refine wpList_append_own_at _ rfl _ _ 22 rfl (w.heap.size + 2) 9 i0 _ 1 16 Tryd.underlying22 hi0 hz0 hz1 hz2 rfl (by decide) (.slice (some ⟨w.heap.size + 1 + 1, 0, none⟩) 0 0) 0 [] rfl hown ad 60 c (strsV (l.take 60)) rfl ?_ ?_ ?_ ?_ ?_ ?_ ?_; (exact HLEN.out); (intro j u hj; exact HNEWS.out _ HB3.out j u hj); (intro u hu; simp only [strsV, List.mem_map] at hu; obtain ⟨x, _, rfl⟩ := hu; rfl); (unfold maxLen; omega); omega; (simp); intro v' w5 hown5 hg5 _ hat; rw [Nat.zero_add, List.nil_append] at hown5; obtain ⟨A', c', rfl, hle⟩ := own_form hown5; have hB := (HBX.out.grown hg5 (by simp [Value.ownBlock] <;> omega)); have hR := (HRX.out.grown hg5 (by simp [Value.ownBlock] <;> omega)); have hlow : Below w.heap.size w w5 := HB3.out.grown hg5 (by simp; omega) (fun k hk => by simp [Value.ownBlock] at hk; omega); have f4 := hB.frozen 4; have c4 : w5.cell? ⟨w.heap.size, 4, none⟩ = some (.slice (some ad) l.length c) := hB.cell 4; have HSB := Lib.hid (hB.set_ 4 (.slice A' 60 c')); have HSR := Lib.hid (hR.far (p := ⟨w.heap.size, 4, none⟩) (by simp) (.slice A' 60 c')); have k0 : (w5.setCell ⟨w.heap.size, 4, none⟩ (.slice A' 60 c')).cell? ⟨w.heap.size, 0, none⟩ = some (.int .i64 tm) := HSB.out.cell 0; have k1 : (w5.setCell ⟨w.heap.size, 4, none⟩ (.slice A' 60 c')).cell? ⟨w.heap.size, 1, none⟩ = some (.string tag) := HSB.out.cell 1; have k2 : (w5.setCell ⟨w.heap.size, 4, none⟩ (.slice A' 60 c')).cell? ⟨w.heap.size, 2, none⟩ = some (.string par) := HSB.out.cell 2; have k3 : (w5.setCell ⟨w.heap.size, 4, none⟩ (.slice A' 60 c')).cell? ⟨w.heap.size, 3, none⟩ = some (.int .i64 sz) := HSB.out.cell 3; have k4 : (w5.setCell ⟨w.heap.size, 4, none⟩ (.slice A' 60 c')).cell? ⟨w.heap.size, 4, none⟩ = some (.slice A' 60 c') := HSB.out.cell 4; have r0 : (w5.setCell ⟨w.heap.size, 4, none⟩ (.slice A' 60 c')).cell? ⟨w.heap.size + 1, 0, none⟩ = some (.int .i64 0) := HSR.out.cell 0; have s0 : w5.frozen? ⟨w.heap.size + 1, 0, none⟩ = false := hR.frozen 0; have r1 : (w5.setCell ⟨w.heap.size, 4, none⟩ (.slice A' 60 c')).cell? ⟨w.heap.size + 1, 1, none⟩ = some (.string ⟨#[]⟩) := HSR.out.cell 1; have s1 : w5.frozen? ⟨w.heap.size + 1, 1, none⟩ = false := hR.frozen 1; have r2 : (w5.setCell ⟨w.heap.size, 4, none⟩ (.slice A' 60 c')).cell? ⟨w.heap.size + 1, 2, none⟩ = some (.string ⟨#[]⟩) := HSR.out.cell 2; have s2 : w5.frozen? ⟨w.heap.size + 1, 2, none⟩ = false := hR.frozen 2; have r3 : (w5.setCell ⟨w.heap.size, 4, none⟩ (.slice A' 60 c')).cell? ⟨w.heap.size + 1, 3, none⟩ = some (.int .i64 0) := HSR.out.cell 3; have s3 : w5.frozen? ⟨w.heap.size + 1, 3, none⟩ = false := hR.frozen 3; have r4 : (w5.setCell ⟨w.heap.size, 4, none⟩ (.slice A' 60 c')).cell? ⟨w.heap.size + 1, 4, none⟩ = some (.slice none 0 0) := HSR.out.cell 4; have s4 : w5.frozen? ⟨w.heap.size + 1, 4, none⟩ = false := hR.frozen 4)
      obtain ⟨hs5, hn5⟩ := own_strs (l := l.take 60) hown5
      refine bodyPost_ret (v := .agg #[.int .i64 tm, .string tag, .string par, .int .i64 sz, .slice A' 60 c']) (by simp [results, Tryd.results15, go_sem, r0, r1, r2, r3, r4]) rfl ?_
      refine ⟨A', c', ?_, ?_, ?_, ?_, ?_⟩
      · exact congrArg (fun n => Ending.returned (.agg #[.int .i64 tm, .string tag, .string par, .int .i64 sz, .slice A' n c'])) hn5
      · intro hl
        obtain ⟨g, rfl, hg1, hg2, hgc⟩ := own_strs2 hown5 hl
        refine ⟨g, 0, rfl, by simp; exact hg2, fun j u hj => ?_⟩
        rw [← hgc j u hj]
        refine World.cell?_of_block ?_
        rw [Below.heap_setCell _ _ _ _ (by simp; omega), Below.heap_setCell _ _ _ _ (by simp; omega), Below.heap_setCell _ _ _ _ (by simp; omega), Below.heap_setCell _ _ _ _ (by simp; omega), Below.heap_setCell _ _ _ _ (by simp; omega), Below.heap_setCell _ _ _ _ (by simp; omega)]
      · exact (((((hlow.setCell (p := ⟨w.heap.size, 4, none⟩) (Nat.le_refl _) _).setCell (p := ⟨w.heap.size + 1, 0, none⟩) (Nat.le_succ _) _).setCell (p := ⟨w.heap.size + 1, 1, none⟩) (Nat.le_succ _) _).setCell (p := ⟨w.heap.size + 1, 2, none⟩) (Nat.le_succ _) _).setCell (p := ⟨w.heap.size + 1, 3, none⟩) (Nat.le_succ _) _).setCell (p := ⟨w.heap.size + 1, 4, none⟩) (Nat.le_succ _) _
      · show (l.take 60).length ≤ c'
        rw [← hn5]; exact hle
      · intro b o e hl
        obtain ⟨g, e2, hg1, _⟩ := own_strs2 hown5 hl
        rw [e] at e2
        injection e2 with e2
        injection e2 with e2
        omega
end Go.Proofs.YtbjompcaekbjoaaDoor
