/- Folding keeps the runes: a folded text is decoded, rune by rune, as the text itself. -/
import Derived.Test.YtbjompcaekbjoaaDoorRs
import Derived.Test.YtbjompcaekbjoaaDoorRq
namespace Go.Proofs.YtbjompcaekbjoaaDoor
open Go.RowKit

theorem decF_congr2 {b b' : Nat → Nat} {c c' : Nat → Bool} (h0 : b 0 = b' 0) (h1 : c 1 = c' 1) (g1 : c' 1 = true → b 1 = b' 1 ∧ c 2 = c' 2) (g2 : c' 1 = true → c' 2 = true → b 2 = b' 2 ∧ c 3 = c' 3) (g3 : c' 1 = true → c' 2 = true → c' 3 = true → b 3 = b' 3) : decF b c = decF b' c' := by
  unfold decF
  rw [h0, h1]
  cases e1 : c' 1 with
  | false => simp
  | true =>
    obtain ⟨f1, f2⟩ := g1 e1
    rw [f1, f2]
    cases e2 : c' 2 with
    | false => simp
    | true =>
      obtain ⟨f3, f4⟩ := g2 e1 e2
      rw [f3, f4]
      cases e3 : c' 3 with
      | false => simp
      | true => rw [g3 e1 e2 e3]
theorem contD_lt {s : ByteArray} {i k : Nat} (h : contD s i k = true) : i + k < s.size ∧ bAt s (i + k) / 64 = 2 := by
  unfold contD at h
  simpa only [Bool.and_eq_true, decide_eq_true_eq, beq_iff_eq] using h
/-- a byte in a rune's midst stands alone as a broken one -/
theorem cont_broken {s : ByteArray} {p : Nat} (h : bAt s p / 64 = 2) : Utf8.decode s p = (65533, 1) := by
  rw [decode_F]
  unfold decF
  simp only [Nat.add_zero]
  rw [if_neg (by omega), if_neg (by simp only [Bool.and_eq_true, beq_iff_eq]; omega), if_neg (by simp only [Bool.and_eq_true, beq_iff_eq]; omega), if_neg (by simp only [Bool.and_eq_true, beq_iff_eq]; omega)]
/-- the first byte of a whole rune is none of a rune's midst -/
theorem head_byte {s : ByteArray} {p : Nat} (h : Utf8.decode s p ≠ (65533, 1)) : bAt s p / 64 ≠ 2 := fun e => h (cont_broken e)
theorem decode_range {s : ByteArray} {p : Nat} (h : Utf8.decode s p ≠ (65533, 1)) :
    ((Utf8.decode s p).2 = 1 ∧ (Utf8.decode s p).1 < 128) ∨ ((Utf8.decode s p).2 = 2 ∧ 128 ≤ (Utf8.decode s p).1 ∧ (Utf8.decode s p).1 < 2048) ∨
    ((Utf8.decode s p).2 = 3 ∧ 2048 ≤ (Utf8.decode s p).1 ∧ (Utf8.decode s p).1 < 65536 ∧ ((Utf8.decode s p).1 < 55296 ∨ 57344 ≤ (Utf8.decode s p).1)) ∨
    ((Utf8.decode s p).2 = 4 ∧ 65536 ≤ (Utf8.decode s p).1 ∧ (Utf8.decode s p).1 ≤ 1114111) := by
  rw [decode_F] at h ⊢
  unfold decF at h ⊢
  split
  · next q0 => exact .inl ⟨rfl, q0⟩
  · next q0 =>
    rw [if_neg q0] at h
    split
    · next q1 =>
      rw [if_pos q1] at h
      split
      · next r1 => exact .inr (.inl ⟨rfl, r1, by simp only; omega⟩)
      · next r1 => rw [if_neg r1] at h; exact absurd rfl h
    · next q1 =>
      rw [if_neg q1] at h
      split
      · next q2 =>
        rw [if_pos q2] at h
        split
        · next r2 =>
          simp only [Bool.and_eq_true, decide_eq_true_eq, valid_iff] at r2
          exact .inr (.inr (.inl ⟨rfl, r2.1, by simp only; omega, by simp only; omega⟩))
        · next r2 => rw [if_neg r2] at h; exact absurd rfl h
      · next q2 =>
        rw [if_neg q2] at h
        split
        · next q3 =>
          rw [if_pos q3] at h
          split
          · next r3 =>
            simp only [Bool.and_eq_true, decide_eq_true_eq, valid_iff] at r3
            exact .inr (.inr (.inr ⟨rfl, r3.1, by simp only; omega⟩))
          · next r3 => rw [if_neg r3] at h; exact absurd rfl h
        · next q3 => rw [if_neg q3] at h; exact absurd rfl h
/-- a list's bytes as a text -/
theorem bAt_str (l : List UInt8) (k : Nat) : bAt (strB l) k = (l.getD k 0).toNat := by
  unfold bAt strB
  show (l.toArray[k]!).toNat = _
  simp [List.getD]
  rfl
theorem size_str (l : List UInt8) : (strB l).size = l.length := rfl
theorem u8n (z : Int) (h0 : 0 ≤ z) (h1 : z < 256) : ((z.toNat.toUInt8).toNat : Int) = z := by
  have : z.toNat.toUInt8.toNat = z.toNat % 256 := rfl
  rw [this]; omega
/-- a written rune is decoded as itself, whatever stands behind it -/
theorem dec_enc (c : Nat) (t : List UInt8) (h : c < 55296 ∨ (57344 ≤ c ∧ c ≤ 1114111)) : Utf8.decode (strB (Lib.encodeRune (c : Int) ++ t)) 0 = (c, (Lib.encodeRune (c : Int)).length) := by
  rw [decode_F]
  have hb : ∀ k, bAt (strB (Lib.encodeRune (c : Int) ++ t)) (0 + k) = ((Lib.encodeRune (c : Int) ++ t).getD k 0).toNat := fun k => by rw [Nat.zero_add]; exact bAt_str _ k
  have hc : ∀ k, contD (strB (Lib.encodeRune (c : Int) ++ t)) 0 k = (decide (k < (Lib.encodeRune (c : Int)).length + t.length) && (((Lib.encodeRune (c : Int) ++ t).getD k 0).toNat / 64 == 2)) := fun k => by
    unfold contD
    rw [hb k, size_str, Nat.zero_add, List.length_append]
  have hb' : (fun k => bAt (strB (Lib.encodeRune (c : Int) ++ t)) (0 + k)) = fun k => ((Lib.encodeRune (c : Int) ++ t).getD k 0).toNat := funext hb
  have hc' : contD (strB (Lib.encodeRune (c : Int) ++ t)) 0 = fun k => (decide (k < (Lib.encodeRune (c : Int)).length + t.length) && (((Lib.encodeRune (c : Int) ++ t).getD k 0).toNat / 64 == 2)) := funext hc
  rw [hb', hc']
  unfold Lib.encodeRune
  rcases (by omega : c < 128 ∨ (128 ≤ c ∧ c < 2048) ∨ (2048 ≤ c ∧ c < 65536) ∨ 65536 ≤ c) with g | ⟨g1, g2⟩ | ⟨g1, g2⟩ | g
  · rw [Lib.encodeRuneZ_one (by omega) (by omega)]
    have e0 := u8n (c : Int) (by omega) (by omega)
    unfold decF
    simp only [List.map_cons, List.map_nil, List.cons_append, List.nil_append, List.getD_cons_zero, List.length_cons, List.length_nil]
    rw [if_pos (by omega)]
    exact Prod.ext (by simp only; omega) rfl
  · rw [Lib.encodeRuneZ_two (by omega) (by omega)]
    have e0 := u8n (192 + (c : Int) / 64) (by omega) (by omega)
    have e1 := u8n (128 + (c : Int) % 64) (by omega) (by omega)
    unfold decF
    simp only [List.map_cons, List.map_nil, List.cons_append, List.nil_append, List.getD_cons_zero, List.getD_cons_succ, List.length_cons, List.length_nil]
    generalize (192 + (c : Int) / 64).toNat.toUInt8.toNat = x0 at *
    generalize (128 + (c : Int) % 64).toNat.toUInt8.toNat = x1 at *
    rw [if_neg (by omega), if_pos (by simp only [Bool.and_eq_true, beq_iff_eq, decide_eq_true_eq]; omega), if_pos (by omega)]
    exact Prod.ext (by simp only; omega) rfl
  · rw [Lib.encodeRuneZ_three (by omega)]
    have e0 := u8n (224 + (c : Int) / 4096) (by omega) (by omega)
    have e1 := u8n (128 + (c : Int) / 64 % 64) (by omega) (by omega)
    have e2 := u8n (128 + (c : Int) % 64) (by omega) (by omega)
    unfold decF
    simp only [List.map_cons, List.map_nil, List.cons_append, List.nil_append, List.getD_cons_zero, List.getD_cons_succ, List.length_cons, List.length_nil]
    generalize (224 + (c : Int) / 4096).toNat.toUInt8.toNat = x0 at *
    generalize (128 + (c : Int) / 64 % 64).toNat.toUInt8.toNat = x1 at *
    generalize (128 + (c : Int) % 64).toNat.toUInt8.toNat = x2 at *
    rw [if_neg (by omega), if_neg (by simp only [Bool.and_eq_true, beq_iff_eq, decide_eq_true_eq]; omega), if_pos (by simp only [Bool.and_eq_true, beq_iff_eq, decide_eq_true_eq]; omega), if_pos (by simp only [Bool.and_eq_true, decide_eq_true_eq, valid_iff]; omega)]
    exact Prod.ext (by simp only; omega) rfl
  · rw [Lib.encodeRuneZ_four (by omega) (by omega)]
    have e0 := u8n (240 + (c : Int) / 262144) (by omega) (by omega)
    have e1 := u8n (128 + (c : Int) / 4096 % 64) (by omega) (by omega)
    have e2 := u8n (128 + (c : Int) / 64 % 64) (by omega) (by omega)
    have e3 := u8n (128 + (c : Int) % 64) (by omega) (by omega)
    unfold decF
    simp only [List.map_cons, List.map_nil, List.cons_append, List.nil_append, List.getD_cons_zero, List.getD_cons_succ, List.length_cons, List.length_nil]
    generalize (240 + (c : Int) / 262144).toNat.toUInt8.toNat = x0 at *
    generalize (128 + (c : Int) / 4096 % 64).toNat.toUInt8.toNat = x1 at *
    generalize (128 + (c : Int) / 64 % 64).toNat.toUInt8.toNat = x2 at *
    generalize (128 + (c : Int) % 64).toNat.toUInt8.toNat = x3 at *
    rw [if_neg (by omega), if_neg (by simp only [Bool.and_eq_true, beq_iff_eq, decide_eq_true_eq]; omega), if_neg (by simp only [Bool.and_eq_true, beq_iff_eq, decide_eq_true_eq]; omega), if_pos (by simp only [Bool.and_eq_true, beq_iff_eq, decide_eq_true_eq]; omega), if_pos (by simp only [Bool.and_eq_true, decide_eq_true_eq, valid_iff]; omega)]
    exact Prod.ext (by simp only; omega) rfl

theorem smallN_nat (c : Nat) : ∃ d : Nat, smallN (c : Int) = (d : Int) := ⟨(smallN c).toNat, by
  unfold smallN
  split
  · omega
  · split <;> omega⟩
theorem smallN_kind (c : Nat) : ((c : Int) < 128 → smallN c < 128 ∧ 0 ≤ smallN c) ∧ (128 ≤ (c : Int) → (c : Int) < 2048 → 128 ≤ smallN c ∧ smallN c < 2048) ∧ (2048 ≤ (c : Int) → smallN c = c) := by
  unfold smallN
  refine ⟨fun h => ?_, fun h h2 => ?_, fun h => ?_⟩ <;> split <;> first | omega | (split <;> omega)
theorem smallN_twice (c : Int) : smallN (smallN c) = smallN c := by
  by_cases h : (65 ≤ c ∧ c ≤ 90) ∨ (192 ≤ c ∧ c ≤ 222 ∧ c ≠ 215) ∨ (913 ≤ c ∧ c ≤ 937 ∧ c ≠ 930) ∨ (1040 ≤ c ∧ c ≤ 1071)
  · have e : smallN c = c + 32 := if_pos h
    rw [e]
    unfold smallN
    rw [if_neg (by omega), if_neg (by omega)]
  · by_cases h2 : 1024 ≤ c ∧ c ≤ 1039
    · have e : smallN c = c + 80 := by unfold smallN; rw [if_neg h, if_pos h2]
      rw [e]
      unfold smallN
      rw [if_neg (by omega), if_neg (by omega)]
    · have e : smallN c = c := by unfold smallN; rw [if_neg h, if_neg h2]
      rw [e, e]
theorem enc_len (c : Nat) : (Lib.encodeRune (c : Int)).length = if c < 128 then 1 else if c < 2048 then 2 else if c < 55296 ∨ (57344 ≤ c ∧ c < 65536) then 3 else if 65536 ≤ c ∧ c ≤ 1114111 then 4 else 3 := by
  unfold Lib.encodeRune Lib.encodeRuneZ
  rw [List.length_map]
  split
  · rw [if_pos (by omega)]; rfl
  · split
    · rw [if_neg (by omega), if_pos (by omega)]; rfl
    · split
      · rw [if_neg (by omega), if_neg (by omega), if_pos (by omega)]; rfl
      · split
        · rw [if_neg (by omega), if_neg (by omega), if_neg (by omega), if_pos (by omega)]; rfl
        · rw [if_neg (by omega), if_neg (by omega), if_neg (by omega), if_neg (by omega)]; rfl
/-- a whole rune's piece is as long as the rune -/
theorem piece_good (s : ByteArray) (p : Nat) (hb : brokenB s p = false) : ∃ d : Nat, smallN ((Utf8.decode s p).1 : Int) = d ∧ pieceL s p = Lib.encodeRune (d : Int) ∧ (Lib.encodeRune (d : Int)).length = (Utf8.decode s p).2 ∧ (d < 55296 ∨ (57344 ≤ d ∧ d ≤ 1114111)) ∧ (d, (Utf8.decode s p).2) ≠ (65533, 1) := by
  have hne : Utf8.decode s p ≠ (65533, 1) := by simpa [brokenB] using hb
  obtain ⟨d, hd⟩ := smallN_nat (Utf8.decode s p).1
  have hk := smallN_kind (Utf8.decode s p).1
  rw [hd] at hk
  have hp : pieceL s p = Lib.encodeRune (d : Int) := by unfold pieceL; rw [if_neg (by rw [hb]; simp), hd]
  refine ⟨d, hd, hp, ?_, ?_, ?_⟩
  · rw [enc_len]
    rcases decode_range hne with ⟨h1, h2⟩ | ⟨h1, h2, h3⟩ | ⟨h1, h2, h3, h4⟩ | ⟨h1, h2, h3⟩
    · rw [h1, if_pos (by omega)]
    · rw [h1, if_neg (by omega), if_pos (by omega)]
    · rw [h1, if_neg (by omega), if_neg (by omega), if_pos (by omega)]
    · rw [h1, if_neg (by omega), if_neg (by omega), if_neg (by omega), if_pos (by omega)]
  · rcases decode_range hne with ⟨h1, h2⟩ | ⟨h1, h2, h3⟩ | ⟨h1, h2, h3, h4⟩ | ⟨h1, h2, h3⟩ <;> omega
  · intro e
    simp only [Prod.mk.injEq] at e
    rcases decode_range hne with ⟨h1, h2⟩ | ⟨h1, h2, h3⟩ | ⟨h1, h2, h3, h4⟩ | ⟨h1, h2, h3⟩ <;> omega
theorem piece_bad (s : ByteArray) (p : Nat) (hb : brokenB s p = true) : pieceL s p = [UInt8.ofNat (bAt s p)] ∧ Utf8.decode s p = (65533, 1) := ⟨by unfold pieceL; rw [if_pos hb], broken_w hb⟩
theorem piece_width (s : ByteArray) (p : Nat) : (pieceL s p).length = (Utf8.decode s p).2 := by
  cases hb : brokenB s p with
  | true => obtain ⟨h1, h2⟩ := piece_bad s p hb; rw [h1, h2]; rfl
  | false => obtain ⟨d, _, h2, h3, _⟩ := piece_good s p hb; rw [h2, h3]
/-- the folded rest, with fuel enough -/
def restL (s : ByteArray) (p : Nat) : List UInt8 := foldFrom s (s.size - p) p
theorem foldFrom_fuel (s : ByteArray) : ∀ (f g p : Nat), s.size ≤ p + f → s.size ≤ p + g → foldFrom s f p = foldFrom s g p
  | 0, g, p, hf, _ => by rw [foldFrom_end s g p (by omega)]; rfl
  | f + 1, 0, p, _, hg => by rw [foldFrom_end s _ p (by omega)]; rfl
  | f + 1, g + 1, p, hf, hg => by
    simp only [foldFrom]
    split
    · next h =>
      have := (decode_fits s p h).1
      rw [foldFrom_fuel s f g _ (by omega) (by omega)]
    · rfl
theorem restL_step (s : ByteArray) (p : Nat) (h : p < s.size) : restL s p = pieceL s p ++ restL s (p + (Utf8.decode s p).2) := by
  obtain ⟨g, e1, e2⟩ := foldFrom_step s (s.size - p) p h (by omega)
  unfold restL
  rw [e1]
  exact congrArg _ (foldFrom_fuel s g _ _ e2 (by omega))
theorem restL_end (s : ByteArray) (p : Nat) (h : ¬ p < s.size) : restL s p = [] := foldFrom_end s _ p h
theorem restL_len (s : ByteArray) : ∀ (n p : Nat), s.size ≤ p + n → p ≤ s.size → (restL s p).length = s.size - p
  | 0, p, h, _ => by rw [restL_end s p (by omega)]; simp; omega
  | n + 1, p, h, hp => by
    by_cases hlt : p < s.size
    · obtain ⟨f1, _, f3, _⟩ := decode_fits s p hlt
      rw [restL_step s p hlt, List.length_append, piece_width, restL_len s n _ (by omega) f3]
      omega
    · rw [restL_end s p hlt]; simp; omega
theorem u8_bAt (s : ByteArray) (p : Nat) : (UInt8.ofNat (bAt s p)).toNat = bAt s p := by
  simp only [UInt8.toNat_ofNat']
  exact Nat.mod_eq_of_lt (bAt_lt s p)
theorem getD_zero_app {l t : List UInt8} (h : 1 ≤ l.length) : (l ++ t).getD 0 0 = l.getD 0 0 := by
  cases l with
  | nil => simp at h
  | cons a r => rfl
theorem enc_head (d : Nat) : ((Lib.encodeRune (d : Int)).getD 0 0).toNat / 64 ≠ 2 := by
  unfold Lib.encodeRune Lib.encodeRuneZ
  split
  · simp only [List.map_cons, List.map_nil, List.getD_cons_zero]
    have := u8n (d : Int) (by omega) (by omega)
    omega
  · split
    · simp only [List.map_cons, List.map_nil, List.getD_cons_zero]
      have := u8n (192 + (d : Int) / 64) (by omega) (by omega)
      omega
    · split
      · simp only [List.map_cons, List.map_nil, List.getD_cons_zero]
        have := u8n (224 + (d : Int) / 4096) (by omega) (by omega)
        omega
      · split
        · simp only [List.map_cons, List.map_nil, List.getD_cons_zero]
          have := u8n (240 + (d : Int) / 262144) (by omega) (by omega)
          omega
        · decide
/-- the rest's first byte is a midst's just where the text's is, and then the same -/
theorem rest_head (s : ByteArray) (p : Nat) (h : p < s.size) : (bAt s p / 64 = 2 → ((restL s p).getD 0 0).toNat = bAt s p ∧ restL s p = UInt8.ofNat (bAt s p) :: restL s (p + 1)) ∧ (bAt s p / 64 ≠ 2 → ((restL s p).getD 0 0).toNat / 64 ≠ 2) := by
  refine ⟨fun hc => ?_, fun hc => ?_⟩
  · have hd := cont_broken hc
    have hb : brokenB s p = true := by unfold brokenB; rw [hd]; rfl
    rw [restL_step s p h, (piece_bad s p hb).1, hd]
    exact ⟨by simp only [List.cons_append, List.getD_cons_zero]; exact u8_bAt s p, rfl⟩
  · rw [restL_step s p h]
    cases hb : brokenB s p with
    | true =>
      rw [(piece_bad s p hb).1]
      simp only [List.cons_append, List.getD_cons_zero]
      rw [u8_bAt]; exact hc
    | false =>
      obtain ⟨d, _, h2, h3, _⟩ := piece_good s p hb
      rw [h2, getD_zero_app (by rw [h3]; exact (decode_fits s p h).1)]
      exact enc_head d
theorem rest_cont (s : ByteArray) (p : Nat) (h : p ≤ s.size) : (decide (0 < (restL s p).length) && (((restL s p).getD 0 0).toNat / 64 == 2)) = (decide (p < s.size) && (bAt s p / 64 == 2)) := by
  rw [restL_len s (s.size - p) p (by omega) h]
  by_cases hp : p < s.size
  · obtain ⟨h1, h2⟩ := rest_head s p hp
    rw [decide_eq_true (show 0 < s.size - p by omega), decide_eq_true hp]
    by_cases hc : bAt s p / 64 = 2
    · rw [(h1 hc).1]
    · rw [beq_eq_false_iff_ne.2 hc, beq_eq_false_iff_ne.2 (h2 hc)]
  · rw [decide_eq_false (show ¬ 0 < s.size - p by omega), decide_eq_false hp]; rfl
/-- THE LAW: the folded rest begins with the folded rune -/
theorem fold_decode (s : ByteArray) (p : Nat) (h : p < s.size) : Utf8.decode (strB (restL s p)) 0 = if brokenB s p = true then (65533, 1) else ((smallN ((Utf8.decode s p).1 : Int)).toNat, (Utf8.decode s p).2) := by
  cases hb : brokenB s p with
  | false =>
    obtain ⟨d, h1, h2, h3, h4, _⟩ := piece_good s p hb
    rw [if_neg (by simp), restL_step s p h, h2, dec_enc d _ h4, h1, h3]
    rfl
  | true =>
    rw [if_pos rfl]
    obtain ⟨hp1, hd⟩ := piece_bad s p hb
    have hr : restL s p = UInt8.ofNat (bAt s p) :: restL s (p + 1) := by rw [restL_step s p h, hp1, hd]; rfl
    rw [← hd, hr, decode_F, decode_F]
    have hB : ∀ (x : UInt8) (t : List UInt8) (k : Nat), bAt (strB (x :: t)) (0 + (k + 1)) = (t.getD k 0).toNat := fun x t k => by rw [Nat.zero_add, bAt_str]; rfl
    have hC : ∀ (x : UInt8) (t : List UInt8) (k : Nat), contD (strB (x :: t)) 0 (k + 1) = (decide (k < t.length) && ((t.getD k 0).toNat / 64 == 2)) := fun x t k => by
      unfold contD
      rw [hB, size_str, List.length_cons]
      congr 1
      exact decide_eq_decide.2 (by omega)
    have cc : ∀ k, contD s p k = (decide (p + k < s.size) && (bAt s (p + k) / 64 == 2)) := fun k => rfl
    refine decF_congr2 ?_ ?_ (fun c1 => ?_) (fun c1 c2 => ?_) (fun c1 c2 c3 => ?_)
    · rw [Nat.zero_add, bAt_str, List.getD_cons_zero, u8_bAt]; rfl
    · rw [hC, cc, rest_cont s (p + 1) (by omega)]
    · obtain ⟨a1, a2⟩ := contD_lt c1
      obtain ⟨b1, b2⟩ := (rest_head s (p + 1) a1).1 a2
      refine ⟨by rw [hB]; exact b1, ?_⟩
      rw [hC, b2, cc]
      have := rest_cont s (p + 2) (by omega)
      simp only [List.length_cons, List.getD_cons_succ]
      rw [← this]
      congr 1
      exact decide_eq_decide.2 (by rw [show p + 1 + 1 = p + 2 from rfl]; omega)
    · obtain ⟨a1, a2⟩ := contD_lt c1
      obtain ⟨a3, a4⟩ := contD_lt c2
      obtain ⟨b1, b2⟩ := (rest_head s (p + 1) a1).1 a2
      obtain ⟨b3, b4⟩ := (rest_head s (p + 2) a3).1 a4
      refine ⟨by rw [hB, b2]; exact b3, ?_⟩
      rw [hC, b2, cc, show p + 1 + 1 = p + 2 from rfl, b4]
      have := rest_cont s (p + 3) (by omega)
      simp only [List.length_cons, List.getD_cons_succ]
      rw [← this]
      congr 1
      exact decide_eq_decide.2 (by rw [show p + 2 + 1 = p + 3 from rfl]; omega)
    · obtain ⟨a1, a2⟩ := contD_lt c1
      obtain ⟨a3, a4⟩ := contD_lt c2
      obtain ⟨a5, a6⟩ := contD_lt c3
      obtain ⟨b1, b2⟩ := (rest_head s (p + 1) a1).1 a2
      obtain ⟨b3, b4⟩ := (rest_head s (p + 2) a3).1 a4
      obtain ⟨b5, _⟩ := (rest_head s (p + 3) a5).1 a6
      rw [hB, b2, show p + 1 + 1 = p + 2 from rfl, b4]
      exact b5
end Go.Proofs.YtbjompcaekbjoaaDoor
