/- Manifests: what is read is written as it was: the plain law. -/
import Derived.Test.YtbjompcaekbjoaaDoorMk
namespace Go.Proofs.YtbjompcaekbjoaaDoor
open Go.RowKit

theorem numS_back {s r : ByteArray} {b : Bool} {x : Nat} (h : numS s b = (x, r, false)) : b = false ∧ s.data.toList = varL x ++ r.data.toList := by
  unfold numS at h
  split at h
  · simp at h
  · next hc =>
    simp only [Prod.mk.injEq] at h
    obtain ⟨rfl, rfl, rfl⟩ := h
    have hb := unvar_back (l := s.data.toList) (x := (unvarL s.data.toList).1) (n := (unvarL s.data.toList).2) rfl (fun e => hc (Or.inl e))
    refine ⟨rfl, ?_⟩
    rw [ext_drop, ← hb.2.2.1, List.take_append_drop]
theorem takS_back {s t r : ByteArray} {b : Bool} {n : Nat} (h : takS s b n = (t, r, false)) : b = false ∧ s.data.toList = t.data.toList ++ r.data.toList ∧ t.size = n := by
  unfold takS at h
  split at h
  · simp at h
  · simp only [Prod.mk.injEq] at h
    obtain ⟨rfl, rfl, rfl⟩ := h
    refine ⟨rfl, ?_, ?_⟩
    · rw [ext_drop, ext_take, List.take_append_drop]
    · simp only [ByteArray.size_extract]; omega
theorem loopS_back : ∀ (n : Nat) {s r : ByteArray} {b : Bool} {l : List ByteArray}, loopS n s b = (l, r, false) → b = false ∧ s.data.toList = catL l ++ r.data.toList ∧ l.length = n
  | 0, s, r, b, l, h => by
    simp only [loopS, Prod.mk.injEq] at h
    obtain ⟨rfl, rfl, rfl⟩ := h
    exact ⟨rfl, rfl, rfl⟩
  | n + 1, s, r, b, l, h => by
    cases b with
    | true => simp [loopS] at h
    | false =>
      rcases ht : takS s false 32 with ⟨t, s2, b2⟩
      rcases hl : loopS n s2 b2 with ⟨l', r', b'⟩
      simp only [loopS, ht, hl, Bool.false_eq_true, if_false, Prod.mk.injEq] at h
      obtain ⟨rfl, rfl, rfl⟩ := h
      obtain ⟨rfl, h2, h3⟩ := loopS_back n hl
      obtain ⟨_, h4, _⟩ := takS_back ht
      refine ⟨rfl, ?_, by simp [h3]⟩
      rw [h4, h2]
      simp [catL]
theorem snap_split {s : ByteArray} (h : Lib.hasPrefix s.data.toList snapL = true) : s.data.toList = snapL ++ (s.extract 4 s.size).data.toList := by
  rw [ext_drop]
  unfold Lib.hasPrefix at h
  rw [List.isPrefixOf_iff_prefix, List.prefix_iff_eq_take] at h
  have e : s.data.toList.take 4 = snapL := h.symm
  rw [← e, List.take_append_drop]
theorem decS_back {s : ByteArray} (h : (decS s).2 = 0) : goodM (decS s).1 = true ∧ bs (manL (decS s).1) = s := by
  cases hp : Lib.hasPrefix s.data.toList snapL with
  | false => rw [decS_nopre hp] at h; cases h
  | true =>
    have hd := decS_pre hp
    rcases h1 : numS (s.extract 4 s.size) false with ⟨x1, s1, b1⟩
    rcases h2 : numS s1 b1 with ⟨x2, s2, b2⟩
    rcases h3 : takS s2 b2 x2 with ⟨t3, s3, b3⟩
    rcases h4 : numS s3 b3 with ⟨x4, s4, b4⟩
    rcases h5 : takS s4 b4 x4 with ⟨t5, s5, b5⟩
    rcases h6 : numS s5 b5 with ⟨x6, s6, b6⟩
    rcases h7 : numS s6 b6 with ⟨x7, s7, b7⟩
    rcases h8 : loopS x7 s7 b7 with ⟨l8, s8, b8⟩
    have hred : redS (s.extract 4 s.size) false = ⟨⟨x1, t3, t5, x6, l8⟩, s8, b8⟩ := by
      unfold redS
      simp only [h1, h2, h3, h4, h5, h6, h7, h8]
    rw [hred] at hd
    simp only at hd
    by_cases hc : b8 = true ∨ s8.size ≠ 0
    · rw [if_pos hc] at hd
      rw [hd] at h
      cases h
    · rw [if_neg hc] at hd
      by_cases hg : goodM ⟨x1, t3, t5, x6, l8⟩ = true
      · rw [if_pos hg] at hd
        rw [hd]
        refine ⟨hg, ?_⟩
        have hb : b8 = false := by
          cases b8
          · rfl
          · exact absurd (Or.inl rfl) hc
        have hz : s8.size = 0 := by
          by_cases e : s8.size = 0
          · exact e
          · exact absurd (Or.inr e) hc
        subst hb
        obtain ⟨rfl, g8, k8⟩ := loopS_back _ h8
        obtain ⟨rfl, g7⟩ := numS_back h7
        obtain ⟨rfl, g6⟩ := numS_back h6
        obtain ⟨rfl, g5, k5⟩ := takS_back h5
        obtain ⟨rfl, g4⟩ := numS_back h4
        obtain ⟨rfl, g3, k3⟩ := takS_back h3
        obtain ⟨rfl, g2⟩ := numS_back h2
        obtain ⟨_, g1⟩ := numS_back h1
        have hn : s8.data.toList = [] := List.eq_nil_of_length_eq_zero (by rw [ba_len]; exact hz)
        rw [hn, List.append_nil] at g8
        apply ba_inj
        rw [bs_list, snap_split hp, g1, g2, g3, g4, g5, g6, g7, g8]
        unfold manL textL snapL
        simp only [k3, k5, k8, Int.toNat_natCast, List.append_assoc]
      · rw [if_neg hg] at hd
        rw [hd] at h
        cases h
/-- there are three outcomes; but for the good one nothing is handed out -/
theorem decS_cases (s : ByteArray) : (decS s).2 = 0 ∨ ((decS s).1 = noMan ∧ ((decS s).2 = 3 ∨ (decS s).2 = 4)) := by
  unfold decS
  simp only
  split
  · exact .inr ⟨rfl, .inl rfl⟩
  · split
    · exact .inl rfl
    · exact .inr ⟨rfl, .inr rfl⟩
theorem man_size {m : Man} (h : goodM m = true) : (bs (manL m)).size ≤ 1099511627776 := by
  obtain ⟨⟨t1, t2⟩, g1, p1, ⟨z1, z2, c1, c2⟩, hc⟩ := good_parts h
  have h1 := (varF_len 10 m.time.toNat).2
  have h2 := (varF_len 10 m.tag.size).2
  have h3 := (varF_len 10 m.parent.size).2
  have h4 := (varF_len 10 m.size.toNat).2
  have h5 := (varF_len 10 m.chunks.length).2
  have h6 := cat_len m.chunks hc
  have hl : (manL m).length = 4 + (varL m.time.toNat).length + ((varL m.tag.size).length + m.tag.size) + ((varL m.parent.size).length + m.parent.size) + (varL m.size.toNat).length + (varL m.chunks.length).length + (catL m.chunks).length := by
    unfold manL textL
    simp only [List.length_append, ba_len]
    rfl
  rw [bs_size, hl]
  unfold varL
  omega
theorem dec_two (s : ByteArray) : ((decS s).2 = 0 ∧ goodM (decS s).1 = true ∧ bs (manL (decS s).1) = s) ∨ (decS s).2 ≠ 0 := by
  by_cases h : (decS s).2 = 0
  · exact .inl ⟨h, decS_back h⟩
  · exact .inr h
end Go.Proofs.YtbjompcaekbjoaaDoor
