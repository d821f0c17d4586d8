/- Folding, counting and cutting go together: plain laws of layer 11. -/
import Derived.Test.YtbjompcaekbjoaaDoorRu
namespace Go.Proofs.YtbjompcaekbjoaaDoor
open Go.RowKit

/-- a place at which a rune begins, or the end -/
inductive Bnd (s : ByteArray) : Nat → Prop
  | zero : Bnd s 0
  | step {p : Nat} : Bnd s p → p < s.size → Bnd s (p + (Utf8.decode s p).2)
theorem Bnd.le {s : ByteArray} {p : Nat} (h : Bnd s p) : p ≤ s.size := by
  induction h with
  | zero => exact Nat.zero_le _
  | step _ hp _ => exact (decode_fits s _ hp).2.2.1
theorem foldR_list (s : ByteArray) : (foldR s).data.toList = restL s 0 := by unfold foldR restL; simp
theorem foldR_size (s : ByteArray) : (foldR s).size = s.size := by
  have := restL_len s s.size 0 (by omega) (Nat.zero_le _)
  rw [← foldR_list] at this
  simpa using this
theorem fold_drop {s : ByteArray} {p : Nat} (h : Bnd s p) : (foldR s).data.toList.drop p = restL s p := by
  induction h with
  | zero => rw [List.drop_zero, foldR_list]
  | step h hp ih =>
    rw [← List.drop_drop, ih, restL_step s _ hp, ← piece_width, List.drop_left]
theorem fold_ext {s : ByteArray} {p : Nat} (h : Bnd s p) : (foldR s).extract p (foldR s).size = strB (restL s p) := by
  apply ByteArray.ext
  apply Array.toList_inj.1
  rw [Lib.extract_to_end, fold_drop h]
  simp [strB]
theorem fold_at {s : ByteArray} {p : Nat} (h : Bnd s p) (hp : p < s.size) : Utf8.decode (foldR s) p = if brokenB s p = true then (65533, 1) else ((smallN ((Utf8.decode s p).1 : Int)).toNat, (Utf8.decode s p).2) := by
  rw [← decode_ext (foldR s) p (by rw [foldR_size]; exact hp), fold_ext h]
  exact fold_decode s p hp
theorem fold_width {s : ByteArray} {p : Nat} (h : Bnd s p) (hp : p < s.size) : (Utf8.decode (foldR s) p).2 = (Utf8.decode s p).2 := by
  rw [fold_at h hp]
  cases hb : brokenB s p with
  | true => rw [if_pos rfl, (piece_bad s p hb).2]
  | false => rw [if_neg (by simp)]
theorem fold_broken {s : ByteArray} {p : Nat} (h : Bnd s p) (hp : p < s.size) : brokenB (foldR s) p = brokenB s p := by
  unfold brokenB
  rw [fold_at h hp]
  cases hb : brokenB s p with
  | true => rw [if_pos rfl, (piece_bad s p hb).2]
  | false =>
    rw [if_neg (by simp)]
    obtain ⟨d, h1, _, _, _, h5⟩ := piece_good s p hb
    have hne : Utf8.decode s p ≠ (65533, 1) := by simpa [brokenB] using hb
    rw [h1, Int.toNat_natCast, decide_eq_false hne, decide_eq_false h5]
theorem fold_byte {s : ByteArray} {p : Nat} (h : Bnd s p) (hp : p < s.size) (hb : brokenB s p = true) : bAt (foldR s) p = bAt s p := by
  obtain ⟨h1, h2⟩ := piece_bad s p hb
  have e := fold_drop h
  rw [restL_step s p hp, h1] at e
  have hz : p < (foldR s).size := by rw [foldR_size]; exact hp
  have e2 : (foldR s).data.toList.drop p = (foldR s)[p] :: (foldR s).data.toList.drop (p + 1) := List.drop_eq_getElem_cons (by simpa using hz)
  rw [e2] at e
  simp only [List.cons_append, List.cons.injEq] at e
  rw [← bAt_get _ _ hz, e.1, u8_bAt]
theorem fold_piece {s : ByteArray} {p : Nat} (h : Bnd s p) (hp : p < s.size) : pieceL (foldR s) p = pieceL s p := by
  cases hb : brokenB s p with
  | true =>
    rw [(piece_bad s p hb).1]
    unfold pieceL
    rw [if_pos (by rw [fold_broken h hp, hb]), fold_byte h hp hb]
  | false =>
    obtain ⟨d, h1, h2, _⟩ := piece_good s p hb
    rw [h2]
    unfold pieceL
    rw [if_neg (by rw [fold_broken h hp, hb]; simp), fold_at h hp, if_neg (by rw [hb]; simp), h1]
    have := smallN_twice ((Utf8.decode s p).1 : Int)
    rw [h1] at this
    simp only [Int.toNat_natCast]
    rw [this]
theorem fold_from {s : ByteArray} : ∀ (f p : Nat), Bnd s p → foldFrom (foldR s) f p = foldFrom s f p
  | 0, _, _ => rfl
  | f + 1, p, h => by
    simp only [foldFrom]
    rw [foldR_size]
    split
    · next hp => rw [fold_piece h hp, fold_width h hp, fold_from f _ (h.step hp)]
    · rfl
theorem cnt_from {s : ByteArray} : ∀ (f p : Nat), Bnd s p → cntFrom (foldR s) f p = cntFrom s f p
  | 0, _, _ => rfl
  | f + 1, p, h => by
    simp only [cntFrom]
    rw [foldR_size]
    split
    · next hp => rw [fold_width h hp, cnt_from f _ (h.step hp)]
    · rfl
theorem cut_from {s : ByteArray} : ∀ (f p : Nat) (n : Int), Bnd s p → cutFrom (foldR s) f p n = cutFrom s f p n
  | 0, _, _, _ => rfl
  | f + 1, p, n, h => by
    simp only [cutFrom]
    rw [foldR_size]
    split
    · next hp => rw [fold_width h hp.1, cut_from f _ _ (h.step hp.1)]
    · rfl
theorem fold_twice (s : ByteArray) : foldR (foldR s) = foldR s := by
  have := fold_from (foldR s).size 0 (Bnd.zero (s := s))
  rw [foldR_size] at this
  apply ByteArray.ext
  apply Array.toList_inj.1
  show (foldFrom (foldR s) (foldR s).size 0).toArray.toList = (foldFrom s s.size 0).toArray.toList
  rw [foldR_size, this]
theorem fold_count (s : ByteArray) : cntR (foldR s) = cntR s := by
  unfold cntR
  rw [foldR_size]
  exact cnt_from _ _ Bnd.zero

/-- a whole rune is read alike wherever its bytes stand -/
theorem decF_whole {b b' : Nat → Nat} {c c' : Nat → Bool} (h : decF b c ≠ (65533, 1)) (hk : ∀ k, k < (decF b c).2 → b' k = b k ∧ (0 < k → c k = true → c' k = true)) : decF b' c' = decF b c := by
  by_cases q0 : b 0 < 128
  · have e : decF b c = (b 0, 1) := by unfold decF; rw [if_pos q0]
    rw [e] at hk ⊢
    have h0 := (hk 0 (by simp)).1
    unfold decF
    rw [h0, if_pos q0]
  · by_cases q1 : (b 0 / 32 == 6 && c 1) = true
    · have e : decF b c = (if 128 ≤ (b 0 % 32) * 64 + b 1 % 64 then ((b 0 % 32) * 64 + b 1 % 64, 2) else (65533, 1)) := by unfold decF; rw [if_neg q0, if_pos q1]
      by_cases r : 128 ≤ (b 0 % 32) * 64 + b 1 % 64
      · rw [if_pos r] at e
        rw [e] at hk ⊢
        have h0 := (hk 0 (by simp)).1
        obtain ⟨h1, g1⟩ := hk 1 (by simp)
        simp only [Bool.and_eq_true] at q1
        have c1 := g1 (by decide) q1.2
        unfold decF
        rw [h0, h1, c1, if_neg q0, if_pos (by rw [q1.1]; rfl), if_pos r]
      · rw [e, if_neg r] at h; exact absurd rfl h
    · by_cases q2 : (b 0 / 16 == 14 && c 1 && c 2) = true
      · have e : decF b c = (if (decide (2048 ≤ (b 0 % 16) * 4096 + (b 1 % 64) * 64 + b 2 % 64) && Utf8.valid ((b 0 % 16) * 4096 + (b 1 % 64) * 64 + b 2 % 64 : Nat)) = true then ((b 0 % 16) * 4096 + (b 1 % 64) * 64 + b 2 % 64, 3) else (65533, 1)) := by unfold decF; rw [if_neg q0, if_neg q1, if_pos q2]
        by_cases r : (decide (2048 ≤ (b 0 % 16) * 4096 + (b 1 % 64) * 64 + b 2 % 64) && Utf8.valid ((b 0 % 16) * 4096 + (b 1 % 64) * 64 + b 2 % 64 : Nat)) = true
        · rw [if_pos r] at e
          rw [e] at hk ⊢
          have h0 := (hk 0 (by simp)).1
          obtain ⟨h1, g1⟩ := hk 1 (by simp)
          obtain ⟨h2, g2⟩ := hk 2 (by simp)
          simp only [Bool.and_eq_true, beq_iff_eq] at q2
          have c1 := g1 (by decide) q2.1.2
          have c2 := g2 (by decide) q2.2
          unfold decF
          rw [h0, h1, h2, c1, c2, if_neg q0, if_neg (by simp only [Bool.and_eq_true, beq_iff_eq]; omega), if_pos (by simp only [Bool.and_eq_true, beq_iff_eq]; exact ⟨⟨q2.1.1, trivial⟩, trivial⟩), if_pos r]
        · rw [e, if_neg r] at h; exact absurd rfl h
      · by_cases q3 : (b 0 / 8 == 30 && c 1 && c 2 && c 3) = true
        · have e : decF b c = (if (decide (65536 ≤ (b 0 % 8) * 262144 + (b 1 % 64) * 4096 + (b 2 % 64) * 64 + b 3 % 64) && Utf8.valid ((b 0 % 8) * 262144 + (b 1 % 64) * 4096 + (b 2 % 64) * 64 + b 3 % 64 : Nat)) = true then ((b 0 % 8) * 262144 + (b 1 % 64) * 4096 + (b 2 % 64) * 64 + b 3 % 64, 4) else (65533, 1)) := by unfold decF; rw [if_neg q0, if_neg q1, if_neg q2, if_pos q3]
          by_cases r : (decide (65536 ≤ (b 0 % 8) * 262144 + (b 1 % 64) * 4096 + (b 2 % 64) * 64 + b 3 % 64) && Utf8.valid ((b 0 % 8) * 262144 + (b 1 % 64) * 4096 + (b 2 % 64) * 64 + b 3 % 64 : Nat)) = true
          · rw [if_pos r] at e
            rw [e] at hk ⊢
            have h0 := (hk 0 (by simp)).1
            obtain ⟨h1, g1⟩ := hk 1 (by simp)
            obtain ⟨h2, g2⟩ := hk 2 (by simp)
            obtain ⟨h3, g3⟩ := hk 3 (by simp)
            simp only [Bool.and_eq_true, beq_iff_eq] at q3
            have c1 := g1 (by decide) q3.1.1.2
            have c2 := g2 (by decide) q3.1.2
            have c3 := g3 (by decide) q3.2
            unfold decF
            rw [h0, h1, h2, h3, c1, c2, c3, if_neg q0, if_neg (by simp only [Bool.and_eq_true, beq_iff_eq]; omega), if_neg (by simp only [Bool.and_eq_true, beq_iff_eq]; omega), if_pos (by simp only [Bool.and_eq_true, beq_iff_eq]; exact ⟨⟨⟨q3.1.1.1, trivial⟩, trivial⟩, trivial⟩), if_pos r]
          · rw [e, if_neg r] at h; exact absurd rfl h
        · exact absurd (by unfold decF; rw [if_neg q0, if_neg q1, if_neg q2, if_neg q3]) h
theorem bAt_cut (s : ByteArray) (q k : Nat) (hq : q ≤ s.size) (h : k < q) : bAt (s.extract 0 q) k = bAt s k := by
  have hz : k < (s.extract 0 q).size := by rw [ByteArray.size_extract]; omega
  rw [← bAt_get _ _ hz, ← bAt_get _ _ (by omega : k < s.size)]
  congr 1
  show (s.extract 0 q).data[k]'_ = s.data[k]'_
  simp [ByteArray.data_extract]
theorem contD_cut {s : ByteArray} {q p k : Nat} (hq : q ≤ s.size) : contD (s.extract 0 q) p k = true ↔ (p + k < q ∧ contD s p k = true) := by
  have hz : (s.extract 0 q).size = q := by rw [ByteArray.size_extract]; omega
  unfold contD
  rw [hz]
  simp only [Bool.and_eq_true, decide_eq_true_eq, beq_iff_eq]
  constructor
  · rintro ⟨h1, h2⟩
    rw [bAt_cut s q _ hq h1] at h2
    exact ⟨h1, by omega, h2⟩
  · rintro ⟨h1, h2, h3⟩
    exact ⟨h1, by rw [bAt_cut s q _ hq h1]; exact h3⟩
theorem decode_cut (s : ByteArray) (p q : Nat) (hq : q ≤ s.size) (hp : p + (Utf8.decode s p).2 ≤ q) (hp1 : p < q) : Utf8.decode (s.extract 0 q) p = Utf8.decode s p := by
  have hz : (s.extract 0 q).size = q := by rw [ByteArray.size_extract]; omega
  by_cases hg : Utf8.decode s p = (65533, 1)
  · by_cases hb : Utf8.decode (s.extract 0 q) p = (65533, 1)
    · rw [hb, hg]
    · have hf := (decode_fits (s.extract 0 q) p (by omega)).2.2.1
      rw [hz] at hf
      rw [decode_F] at hb hf
      rw [decode_F, decode_F]
      refine (decF_whole hb fun k hk => ⟨(bAt_cut s q _ hq (by omega)).symm, fun _ hc => ((contD_cut hq).1 hc).2⟩).symm
  · rw [decode_F] at hg hp
    rw [decode_F, decode_F]
    exact decF_whole hg fun k hk => ⟨bAt_cut s q _ hq (by omega), fun _ hc => (contD_cut hq).2 ⟨by omega, hc⟩⟩
theorem cutFrom_range (s : ByteArray) : ∀ (f p : Nat) (n : Int), p ≤ s.size → p ≤ cutFrom s f p n ∧ cutFrom s f p n ≤ s.size
  | 0, p, n, h => ⟨Nat.le_refl _, h⟩
  | f + 1, p, n, h => by
    simp only [cutFrom]
    split
    · next hp =>
      have h1 := decode_fits s p hp.1
      have h2 := cutFrom_range s f (p + (Utf8.decode s p).2) (n - 1) h1.2.2.1
      omega
    · exact ⟨Nat.le_refl _, h⟩
theorem piece_cut (s : ByteArray) (p q : Nat) (hq : q ≤ s.size) (hp : p + (Utf8.decode s p).2 ≤ q) (hp1 : p < q) : pieceL (s.extract 0 q) p = pieceL s p := by
  unfold pieceL brokenB
  rw [decode_cut s p q hq hp hp1, bAt_cut s q p hq hp1]
/-- what is cut off is folded alike, and counted -/
theorem fold_cut_from (s : ByteArray) : ∀ (f p : Nat) (n : Int) (q : Nat), p ≤ s.size → s.size ≤ p + f → cutFrom s f p n = q → restL (s.extract 0 q) p = (restL s p).take (q - p)
  | 0, p, n, q, h, hf, hq => by
    have hz : (s.extract 0 q).size = min q s.size := by rw [ByteArray.size_extract]; omega
    simp only [cutFrom] at hq
    subst hq
    rw [restL_end _ p (by omega)]
    simp
  | f + 1, p, n, q, h, hf, hq => by
    have hr := cutFrom_range s (f + 1) p n h
    rw [hq] at hr
    have hz : (s.extract 0 q).size = q := by rw [ByteArray.size_extract]; omega
    simp only [cutFrom] at hq
    split at hq
    · next hc =>
      obtain ⟨f1, _, f3, _⟩ := decode_fits s p hc.1
      have hr2 := cutFrom_range s f (p + (Utf8.decode s p).2) (n - 1) f3
      rw [hq] at hr2
      have hd := decode_cut s p q hr.2 hr2.1 (by omega)
      rw [restL_step s p hc.1, restL_step _ p (by omega), piece_cut s p q hr.2 hr2.1 (by omega), hd]
      have hw := piece_width s p
      rw [fold_cut_from s f (p + (Utf8.decode s p).2) (n - 1) q f3 (by omega) hq, List.take_append, hw]
      have ht : (pieceL s p).take (q - p) = pieceL s p := List.take_of_length_le (by omega)
      rw [ht]
      congr 2
      omega
    · subst hq
      rw [restL_end _ p (by omega)]
      simp
theorem cnt_cut_from (s : ByteArray) : ∀ (f p g : Nat) (n : Int) (q : Nat), p ≤ s.size → s.size ≤ p + f → s.size ≤ p + g → cutFrom s f p n = q → (cntFrom (s.extract 0 q) g p : Int) = max 0 (min n (cntFrom s f p : Int))
  | 0, p, g, n, q, h, hf, _, hq => by
    have hz : (s.extract 0 q).size = min q s.size := by rw [ByteArray.size_extract]; omega
    simp only [cutFrom] at hq
    subst hq
    rw [cntFrom_end _ g p (by omega)]
    simp only [cntFrom]
    omega
  | f + 1, p, g, n, q, h, hf, hg, hq => by
    have hr := cutFrom_range s (f + 1) p n h
    rw [hq] at hr
    have hz : (s.extract 0 q).size = q := by rw [ByteArray.size_extract]; omega
    simp only [cutFrom] at hq
    split at hq
    · next hc =>
      obtain ⟨f1, _, f3, _⟩ := decode_fits s p hc.1
      have hr2 := cutFrom_range s f (p + (Utf8.decode s p).2) (n - 1) f3
      rw [hq] at hr2
      have hd := decode_cut s p q hr.2 hr2.1 (by omega)
      obtain ⟨g2, rfl⟩ : ∃ g2, g = g2 + 1 := ⟨g - 1, by omega⟩
      have ih := cnt_cut_from s f (p + (Utf8.decode s p).2) g2 (n - 1) q f3 (by omega) (by omega) hq
      have e1 : cntFrom (s.extract 0 q) (g2 + 1) p = cntFrom (s.extract 0 q) g2 (p + (Utf8.decode s p).2) + 1 := by
        simp only [cntFrom]
        rw [if_pos (by omega), hd]
      have e2 : cntFrom s (f + 1) p = cntFrom s f (p + (Utf8.decode s p).2) + 1 := by
        simp only [cntFrom]
        rw [if_pos hc.1]
      rw [e1, e2]
      omega
    · next hc =>
      subst hq
      rw [cntFrom_end _ g p (by omega)]
      by_cases hp : p < s.size
      · omega
      · rw [cntFrom_end s (f + 1) p hp]; omega
theorem fold_cut (s : ByteArray) (n : Int) : foldR (cutR s n) = cutR (foldR s) n := by
  have hr := cutFrom_range s s.size 0 n (Nat.zero_le _)
  have e1 := fold_cut_from s s.size 0 n _ (Nat.zero_le _) (by omega) rfl
  have e2 : cutFrom (foldR s) (foldR s).size 0 n = cutFrom s s.size 0 n := by rw [foldR_size]; exact cut_from _ _ _ Bnd.zero
  unfold cutR
  rw [e2]
  generalize cutFrom s s.size 0 n = q at *
  apply ByteArray.ext
  apply Array.toList_inj.1
  rw [foldR_list, e1, Lib.extract_from_zero, foldR_list]
  rfl
theorem count_cut (s : ByteArray) (n : Int) : (cntR (cutR s n) : Int) = max 0 (min n (cntR s : Int)) := by
  have hr := cutFrom_range s s.size 0 n (Nat.zero_le _)
  unfold cntR
  have hz : (cutR s n).size = cutFrom s s.size 0 n := by unfold cutR; rw [ByteArray.size_extract]; omega
  have e := cnt_cut_from s s.size 0 s.size n _ (Nat.zero_le _) (by omega) (by omega) rfl
  rw [← e]
  congr 1
  rw [hz]
  show cntFrom (s.extract 0 (cutFrom s s.size 0 n)) _ 0 = _
  have fuel : ∀ (u : ByteArray) (f g p : Nat), u.size ≤ p + f → u.size ≤ p + g → cntFrom u f p = cntFrom u g p := by
    intro u f
    induction f with
    | zero => intro g p h1 _; rw [cntFrom_end u g p (by omega)]; rfl
    | succ f ih =>
      intro g p h1 h2
      by_cases hp : p < u.size
      · obtain ⟨f1, _⟩ := decode_fits u p hp
        obtain ⟨g', rfl⟩ : ∃ g', g = g' + 1 := ⟨g - 1, by omega⟩
        simp only [cntFrom]
        rw [if_pos hp, if_pos hp, ih g' _ (by omega) (by omega)]
      · rw [cntFrom_end u _ p hp, cntFrom_end u _ p hp]
  have hz2 : (s.extract 0 (cutFrom s s.size 0 n)).size = cutFrom s s.size 0 n := by rw [ByteArray.size_extract]; omega
  exact fuel _ _ _ _ (by omega) (by omega)

theorem smallN_name (c : Nat) : (smallN (c : Int) < 32 ↔ c < 32) ∧ (smallN (c : Int) = 47 ↔ c = 47) ∧ (smallN (c : Int) = 127 ↔ c = 127) ∧ (smallN (c : Int) = 46 ↔ c = 46) := by
  unfold smallN
  split
  · omega
  · split <;> omega
theorem fold_bad {s : ByteArray} {p : Nat} (h : Bnd s p) (hp : p < s.size) : badN (foldR s) p = badN s p := by
  unfold badN
  rw [fold_broken h hp, fold_at h hp]
  cases hb : brokenB s p with
  | true => simp
  | false =>
    obtain ⟨d, h1, _⟩ := piece_good s p hb
    obtain ⟨k1, k2, k3, _⟩ := smallN_name (Utf8.decode s p).1
    rw [if_neg (by simp), h1]
    rw [h1] at k1 k2 k3
    simp only [Int.toNat_natCast]
    rw [decide_eq_decide.2 (show d < 32 ↔ (Utf8.decode s p).1 < 32 by omega), decide_eq_decide.2 (show d = 47 ↔ (Utf8.decode s p).1 = 47 by omega), decide_eq_decide.2 (show d = 127 ↔ (Utf8.decode s p).1 = 127 by omega)]
theorem name_from {s : ByteArray} : ∀ (f p : Nat), Bnd s p → nameFrom (foldR s) f p = nameFrom s f p
  | 0, _, _ => rfl
  | f + 1, p, h => by
    simp only [nameFrom]
    rw [foldR_size]
    split
    · next hp => rw [fold_bad h hp, fold_width h hp, name_from f _ (h.step hp)]
    · rfl
theorem fold_id {s : ByteArray} (h : ∀ p, p < s.size → bAt s p = 46) (hz : s.size ≤ 2) : foldR s = s := by
  have hs : s = ⟨#[]⟩ ∨ s = ⟨#[46]⟩ ∨ s = ⟨#[46, 46]⟩ := by
    have hb : ∀ p (hp : p < s.size), s[p] = 46 := fun p hp => by
      apply UInt8.toNat_inj.1
      rw [bAt_get s p hp, h p hp]; rfl
    rcases (by omega : s.size = 0 ∨ s.size = 1 ∨ s.size = 2) with e | e | e
    · exact .inl (size0 e)
    · refine .inr (.inl ?_)
      apply ByteArray.ext
      apply Array.ext
      · exact e
      · intro i h1 h2
        have := hb i h1
        simp at h2
        subst h2
        exact this
    · refine .inr (.inr ?_)
      apply ByteArray.ext
      apply Array.ext
      · exact e
      · intro i h1 h2
        have := hb i h1
        simp at h2
        rcases (by omega : i = 0 ∨ i = 1) with rfl | rfl <;> exact this
  rcases hs with rfl | rfl | rfl <;> decide +kernel
/-- a folded byte that is a point was one -/
theorem fold_dots {s t : ByteArray} (h : foldR s = t) (ht : t = ⟨#[46]⟩ ∨ t = ⟨#[46, 46]⟩) : s = t := by
  have hsz : s.size = t.size := by rw [← h, foldR_size]
  have hz : t.size ≤ 2 := by rcases ht with rfl | rfl <;> decide
  have ht46 : ∀ p, p < t.size → bAt t p = 46 := fun p hp => by
    rcases ht with rfl | rfl
    · have : p = 0 := by simp only [show (ByteArray.size ⟨#[46]⟩) = 1 from rfl] at hp; omega
      subst this; rfl
    · simp only [show (ByteArray.size ⟨#[46, 46]⟩) = 2 from rfl] at hp
      rcases (by omega : p = 0 ∨ p = 1) with rfl | rfl <;> rfl
  -- at each rune's place the text has a point too
  have key : ∀ p, Bnd s p → p < s.size → bAt s p = 46 ∧ (Utf8.decode s p).2 = 1 := fun p hB hp => by
    have hp2 : p < t.size := by omega
    have hat := fold_at hB hp
    rw [h] at hat
    have hd : Utf8.decode t p = (46, 1) := by
      have hlt : bAt t p < 128 := by rw [ht46 p hp2]; decide
      rw [decode_F]
      unfold decF
      simp only [Nat.add_zero]
      rw [if_pos hlt, ht46 p hp2]
    rw [hd] at hat
    cases hb : brokenB s p with
    | true => rw [if_pos hb] at hat; simp at hat
    | false =>
      rw [if_neg (by rw [hb]; simp)] at hat
      simp only [Prod.mk.injEq] at hat
      obtain ⟨d, h1, _⟩ := piece_good s p hb
      obtain ⟨_, _, _, k4⟩ := smallN_name (Utf8.decode s p).1
      rw [h1] at k4 hat
      simp only [Int.toNat_natCast] at hat
      have hc := k4.1 (by omega)
      refine ⟨?_, hat.2.symm⟩
      have hne : Utf8.decode s p ≠ (65533, 1) := by simpa [brokenB] using hb
      have henc := enc_dec s p hb
      rw [hc, ← hat.2] at henc
      have e : Lib.encodeRune ((46 : Nat) : Int) = [46] := by decide
      rw [e] at henc
      simp only [List.range_one, List.map_cons, List.map_nil, List.cons.injEq, Nat.add_zero] at henc
      have := u8_bAt s p
      rw [← henc.1] at this
      exact this.symm
  have h46 : ∀ p, p < s.size → bAt s p = 46 := fun p hp => by
    rcases (by omega : p = 0 ∨ p = 1) with rfl | rfl
    · exact (key 0 .zero hp).1
    · have h0 := key 0 .zero (by omega)
      have hB := (Bnd.zero (s := s)).step (by omega)
      rw [h0.2] at hB
      exact (key 1 hB hp).1
  rw [← h, fold_id h46 (by omega)]
theorem fold_name (s : ByteArray) : nameOk (foldR s) = nameOk s := by
  have e := name_from s.size 0 (Bnd.zero (s := s))
  have d1 : (foldR s ≠ ⟨#[46]⟩) ↔ s ≠ ⟨#[46]⟩ := by
    refine not_congr ⟨fun h => fold_dots h (.inl rfl), fun h => ?_⟩
    rw [h]; decide +kernel
  have d2 : (foldR s ≠ ⟨#[46, 46]⟩) ↔ s ≠ ⟨#[46, 46]⟩ := by
    refine not_congr ⟨fun h => fold_dots h (.inr rfl), fun h => ?_⟩
    rw [h]; decide +kernel
  unfold nameOk
  rw [foldR_size, e, decide_eq_decide.2 d1, decide_eq_decide.2 d2]
end Go.Proofs.YtbjompcaekbjoaaDoor
