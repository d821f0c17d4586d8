/- The document's bits of a text. The document's bits of a text, block by block. Plain. -/
import Derived.Test.YtpeepdkeicgkiaaGreatDoorZo12
import Derived.Test.YtpeepdkeicgkiaaGreatDoorZo4
namespace Go.Proofs.YtpeepdkeicgkiaaGreatDoor
set_option linter.unusedVariables false
set_option linter.unusedSimpArgs false
set_option linter.unusedSectionVars false
open Go.RowKit

def bitN (c k : Nat) : Bool := c / 2 ^ k % 2 == 1
def byteB (c : UInt8) : List Bool := [bitN c.toNat 7, bitN c.toNat 6, bitN c.toNat 5, bitN c.toNat 4, bitN c.toNat 3, bitN c.toNat 2, bitN c.toNat 1, bitN c.toNat 0]
def boolV (l : List Bool) : List Value := l.map .bool
theorem infoBo : (Tryz.prog.info? 4).map (fun i => (i.zero, i.size, i.bytes)) = some (some (.bool false), 1, 1) := by kernel_rfl
def soFar (s : ByteArray) (i j : Nat) (c : UInt8) : List Bool := (s.data.toList.take i).flatMap byteB ++ (byteB c).take j
theorem soFar_step (s : ByteArray) (i j : Nat) (c : UInt8) (h : j < 8) : soFar s i (j + 1) c = soFar s i j c ++ [bitN c.toNat (7 - j)] := by
  unfold soFar
  rw [List.append_assoc]
  congr 1
  match j, h with
  | 0, _ => rfl
  | 1, _ => rfl
  | 2, _ => rfl
  | 3, _ => rfl
  | 4, _ => rfl
  | 5, _ => rfl
  | 6, _ => rfl
  | 7, _ => rfl
theorem soFar_next (s : ByteArray) (i : Nat) (c : UInt8) (h : s.data.toList[i]? = some c) : soFar s (i + 1) 0 0 = soFar s i 8 c := by
  unfold soFar
  rw [List.take_add_one, h, List.flatMap_append]
  simp [byteB]
theorem bit_go (c : Nat) (k : Nat) : (((c : Int) / 2 ^ k).tmod 2 == 1) = bitN c k := by
  have e : ((c : Int) / 2 ^ k) = ((c / 2 ^ k : Nat) : Int) := by push_cast; rfl
  rw [e]
  unfold bitN
  generalize c / 2 ^ k = q
  have e2 : (q : Int).tmod 2 = ((q % 2 : Nat) : Int) := rfl
  rw [e2, Bool.eq_iff_iff]
  simp
  omega
def padQ (n : Nat) : Nat := (959 - n % 512) % 512
def bits64 (n : Nat) : List Bool := (List.range 64).map fun i => bitN n (63 - i)
theorem bits64_step (n j : Nat) (h : j < 64) : (bits64 n).take (j + 1) = (bits64 n).take j ++ [bitN n (63 - j)] := by
  rw [List.take_add_one]
  simp [bits64, h]
def bitsD (s : ByteArray) : List Bool := soFar s s.size 0 0 ++ true :: List.replicate (padQ (8 * s.size)) false ++ bits64 (8 * s.size)
def sliceLen : Value → Nat
  | .slice _ m _ => m
  | _ => 0
set_option maxRecDepth 100000 in
set_option maxHeartbeats 3200000 in
theorem bits_any (s : ByteArray) (w : World) (hs : s.size ≤ 16777216) :
    Calls Tryz.prog 82 #[.string s] w fun e w' => ∃ g cap, e = .returned (.slice (some ⟨g, 0, none⟩) (8 * s.size + 1 + padQ (8 * s.size) + 64) cap) ∧ w'.ownsRow w.heap.size 4 1 (.slice (some ⟨g, 0, none⟩) (8 * s.size + 1 + padQ (8 * s.size) + 64) cap) (8 * s.size + 1 + padQ (8 * s.size) + 64) (boolV (bitsD s)) ∧ Below w.heap.size w w' := by
  obtain ⟨n, hn⟩ : ∃ n, n = 8 * s.size := ⟨_, rfl⟩
  have HD := Lib.hid (show bitsD s = soFar s s.size 0 0 ++ true :: List.replicate (padQ n) false ++ bits64 n from by rw [hn]; rfl)
  rw [← hn]
  generalize bitsD s = D at *
  have hpq : padQ n < 512 := Nat.mod_lt _ (by decide)
  have hpd : (n + 1 + padQ n) % 512 = 448 ∧ ∀ m, n + 1 ≤ m → m < n + 1 + padQ n → ¬ m % 512 = 448 := by
    unfold padQ
    exact ⟨by omega, fun m h1 h2 => by omega⟩
  generalize padQ n = pq at *
  obtain ⟨m0, hm0⟩ : ∃ m0, m0 = n + 1 + pq := ⟨_, rfl⟩
  rw [← hm0] at hpd ⊢
  have HPD := Lib.hid hpd
  have HM := Lib.hid (And.intro hm0 hpq)
  have HN := Lib.hid hn
  clear hpd hm0 hpq hn
  go_enter Tryz.func82, Tryz.ntmps82
  go_wp2
  go_loopw [3, 4] (fun v i wr => ∃ (g cap k : Nat), v = .slice (some ⟨g, 0, none⟩) (8 * k : Nat) cap ∧ i = .int .i64 (k : Nat) ∧ k ≤ s.size ∧ wr.ownsRow w.heap.size 4 1 (.slice (some ⟨g, 0, none⟩) (8 * k) cap) (8 * k) (boolV (soFar s k 0 0)) ∧ Below w.heap.size w wr) (fun _ i _ => s.size - (intOf i).toNat)
  case atStart =>
    refine ⟨w.heap.size, 0, 0, rfl, rfl, Nat.zero_le _, ?_, (Below.refl _ w).alloc (Nat.le_refl _) _⟩
    exact World.ownsRow_lit (e := 4) (size := 1) w #[] 0 (Nat.le_refl _) (by decide) rfl
  case round =>
    obtain ⟨g, cap, k, rfl, rfl, hk, hown, hb⟩ := hrel
    have hsz := hb.size
    by_cases hlt : k < s.size
    · obtain ⟨c, hc⟩ : ∃ c, s.data.toList[k]? = some c := ⟨_, List.getElem?_eq_getElem (by simpa using hlt)⟩
      obtain ⟨wo, hwo⟩ : ∃ wo : World, wo = wr := ⟨_, rfl⟩
      have hgk : (k : Int) < (s.size : Int) := by omega
      have hgk1 : decide ((k : Int) < (s.size : Int)) = true := decide_eq_true hgk
      have hix := idx_str s k (by omega)
      have hcd : s.data.toList.getD k 0 = c := by rw [List.getD_eq_getElem?_getD, hc]; rfl
      rw [hcd] at hix
      go_wp2
      go_loopw [3, 5] (fun v i wq => ∃ (g cap j : Nat), v = .slice (some ⟨g, 0, none⟩) (8 * k + j : Nat) cap ∧ i = .int .i64 (7 - (j : Int)) ∧ j ≤ 8 ∧ wq.ownsRow w.heap.size 4 1 (.slice (some ⟨g, 0, none⟩) (8 * k + j) cap) (8 * k + j) (boolV (soFar s k j c)) ∧ Below w.heap.size w wq) (fun _ i _ => (intOf i + 1).toNat)
      case atStart => exact ⟨g, cap, 0, rfl, rfl, by omega, hown, hb⟩
      case round =>
        obtain ⟨g2, cap2, j, rfl, rfl, hj, hown2, hb2⟩ := hrel
        have hsz2 := hb2.size
        by_cases hj8 : j < 8
        · have hpos : ¬ 7 - (j : Int) < 0 := by omega
          have HO := Lib.hid (hown2.lt g2 rfl)
          clear hwo hown
          have hbit := bit_go c.toNat (7 - j)
          have HSF := Lib.hid (soFar_step s k j c hj8)
          generalize bitN c.toNat (7 - j) = bt at *
          go_wp2_with (at_builtin; refine wpList_app1 rfl _ _ 47 rfl w.heap.size 4 Tryz.underlying47 infoBo rfl (by decide) (.slice (some ⟨g2, 0, none⟩) (8 * k + j) cap2) _ _ rfl hown2 _ rfl rfl (by intro u hu; simp at hu; subst hu; rfl) ?_ ?_ ?_ ?_; omega; omega; omega; intro g1 cap1 w5 hown' hgr hbw hg)
          go_roundw
          case rel =>
            refine ⟨g1, cap1, j + 1, rfl, by first | rfl | (congr 1; omega), by omega, ?_, hb2.trans hbw⟩
            rw [← Nat.add_assoc, HSF.out]
            simpa [boolV] using hown'
          case measure => simp [intOf]; omega
        · obtain rfl : j = 8 := by omega
          have HSN := Lib.hid (soFar_next s k c hc)
          rw [show (7 : Int) - ((8 : Nat) : Int) = -1 from rfl]
          clear hwo hown
          go_wp2
          go_roundw
          case rel => exact ⟨g2, cap2, k + 1, rfl, by go_num, by omega, by rw [HSN.out]; exact hown2, hb2⟩
          case measure => simp [intOf]; omega
    · obtain rfl : k = s.size := by omega
      have hgk : ¬ (s.size : Int) < (s.size : Int) := by omega
      obtain ⟨L0, hL0⟩ : ∃ L0, L0 = soFar s s.size 0 0 := ⟨_, rfl⟩
      rw [← hL0] at hown HD
      clear hL0
      have hn := HN.out
      rw [← hn] at hown ⊢
      have hnb : n ≤ 134217728 := by omega
      have hwn : IntKind.u64.wrap (n : Int) = (n : Int) := IntWalk.u64_in _ (by omega)
      clear hn
      go_wp2_with (at_builtin; refine wpList_app1 rfl _ _ 47 rfl w.heap.size 4 Tryz.underlying47 infoBo rfl (by decide) (.slice (some ⟨g, 0, none⟩) n cap) _ _ rfl hown _ rfl rfl (by intro u hu; simp at hu; subst hu; rfl) ?_ ?_ ?_ ?_; omega; omega; omega; intro g1 cap1 w5 hown' hgr hbw hg)
      have HO1 := Lib.hid hown'
      have HB1 := Lib.hid (hb.trans hbw)
      have hmz := HM.out
      clear hown' hgr hbw hg hown hb hsz
      go_loopw [3] (fun v wr => ∃ (g cap m : Nat), v = .slice (some ⟨g, 0, none⟩) m cap ∧ n + 1 ≤ m ∧ m ≤ m0 ∧ wr.ownsRow w.heap.size 4 1 (.slice (some ⟨g, 0, none⟩) m cap) m (boolV (L0 ++ true :: List.replicate (m - n - 1) false)) ∧ Below w.heap.size w wr) (fun v _ => m0 - sliceLen v)
      case atStart =>
        refine ⟨g1, cap1, n + 1, rfl, Nat.le_refl _, by omega, ?_, HB1.out⟩
        rw [show n + 1 - n - 1 = 0 by omega]
        simpa [boolV] using HO1.out
      case round =>
        clear HO1 HB1
        obtain ⟨g3, cap3, m, rfl, hm1, hm2, hown3, hb3⟩ := hrel
        have hsz3 := hb3.size
        have em : (m : Int).tmod 512 = ((m % 512 : Nat) : Int) := rfl
        by_cases hlt3 : m < m0
        · have hr : (((m % 512 : Nat) : Int) == 448) = false := by
            have := HPD.out.2 m hm1 hlt3
            simp; omega
          generalize m % 512 = r at *
          go_wp2_with (at_builtin; refine wpList_app1 rfl _ _ 47 rfl w.heap.size 4 Tryz.underlying47 infoBo rfl (by decide) (.slice (some ⟨g3, 0, none⟩) m cap3) _ _ rfl hown3 _ rfl rfl (by intro u hu; simp at hu; subst hu; rfl) ?_ ?_ ?_ ?_; omega; omega; omega; intro g4 cap4 w6 hown4 hgr4 hbw4 hg4)
          go_roundw
          case rel =>
            refine ⟨g4, cap4, m + 1, rfl, by omega, by omega, ?_, hb3.trans hbw4⟩
            rw [show m + 1 - n - 1 = (m - n - 1) + 1 by omega, List.replicate_succ']
            simpa [boolV] using hown4
          case measure => simp [sliceLen]; omega
        · obtain rfl : m = m0 := by omega
          rw [show m - n - 1 = pq by omega] at hown3
          have hr : ((m % 512 : Nat) : Int) = 448 := by rw [HPD.out.1]; rfl
          rw [hr] at em
          obtain ⟨L1, hL1⟩ : ∃ L1, L1 = L0 ++ true :: List.replicate pq false := ⟨_, rfl⟩
          rw [← hL1] at hown3 HD
          have hmb : m ≤ 134218800 := by omega
          clear hL1 hr HPD hm1 hm2 hlt3 hmz HM
          have HO3 := Lib.hid hown3
          have HB3 := Lib.hid hb3
          clear hown3 hb3 hsz3
          go_wp2
          go_loopw [3, 7] (fun v i wr => ∃ (g cap j : Nat), v = .slice (some ⟨g, 0, none⟩) (m + j : Nat) cap ∧ i = .int .i64 (63 - (j : Int)) ∧ j ≤ 64 ∧ wr.ownsRow w.heap.size 4 1 (.slice (some ⟨g, 0, none⟩) (m + j) cap) (m + j) (boolV (L1 ++ (bits64 n).take j)) ∧ Below w.heap.size w wr) (fun _ i _ => (intOf i + 1).toNat)
          case atStart => exact ⟨g3, cap3, 0, rfl, rfl, by omega, by simpa using HO3.out, HB3.out⟩
          case round =>
            clear HO3 HB3
            obtain ⟨g5, cap5, j, rfl, rfl, hj, hown5, hb5⟩ := hrel
            have hsz5 := hb5.size
            by_cases hj64 : j < 64
            · have hpos : ¬ 63 - (j : Int) < 0 := by omega
              have hbit := bit_go n (63 - j)
              have HSF := Lib.hid (bits64_step n j hj64)
              generalize bitN n (63 - j) = bt at *
              go_wp2_with (at_builtin; refine wpList_app1 rfl _ _ 47 rfl w.heap.size 4 Tryz.underlying47 infoBo rfl (by decide) (.slice (some ⟨g5, 0, none⟩) (m + j) cap5) _ _ rfl hown5 _ rfl rfl (by intro u hu; simp at hu; subst hu; rfl) ?_ ?_ ?_ ?_; omega; omega; omega; intro g6 cap6 w6 hown6 hgr6 hbw6 hg6)
              go_roundw
              case rel =>
                refine ⟨g6, cap6, j + 1, rfl, by first | rfl | (congr 1; omega), by omega, ?_, hb5.trans hbw6⟩
                rw [← Nat.add_assoc, HSF.out]
                simpa [boolV] using hown6
              case measure => simp [intOf]; omega
            · obtain rfl : j = 64 := by omega
              rw [show (63 : Int) - ((64 : Nat) : Int) = -1 from rfl]
              have HO5 := Lib.hid hown5
              clear hown5
              go_wp2
              go_ret
              refine ⟨g5, cap5, rfl, ?_, hb5⟩
              have h := HO5.out
              rw [show (bits64 n).take 64 = bits64 n from List.take_of_length_le (by simp [bits64])] at h
              rw [HD.out]
              exact h
end Go.Proofs.YtpeepdkeicgkiaaGreatDoor
namespace Go.Proofs.YtpeepdkeicgkiaaGreatDoor
set_option linter.unusedVariables false
set_option linter.unusedSimpArgs false
set_option linter.unusedSectionVars false
open Go.RowKit

theorem byteB_len (c : UInt8) : (byteB c).length = 8 := rfl
theorem bitN_lsb (c : UInt8) (k : Nat) : bitN c.toNat k = c.toBitVec.getLsbD k := by
  unfold bitN
  show _ = c.toNat.testBit k
  rw [Nat.testBit_eq_decide_div_mod_eq, Bool.eq_iff_iff]; simp
theorem byteB_get (c : UInt8) {t : Nat} (h : t < 8) : (byteB c)[t]? = some (bitN c.toNat (7 - t)) := by
  match t, h with
  | 0, _ => rfl
  | 1, _ => rfl
  | 2, _ => rfl
  | 3, _ => rfl
  | 4, _ => rfl
  | 5, _ => rfl
  | 6, _ => rfl
  | 7, _ => rfl
theorem flatB_len (l : List UInt8) : (l.flatMap byteB).length = 8 * l.length := by
  induction l with
  | nil => rfl
  | cons c r ih => rw [List.flatMap_cons, List.length_append, byteB_len, ih, List.length_cons]; omega
theorem flatB_get : ∀ (l : List UInt8) (q t : Nat), t < 8 → (l.flatMap byteB)[8 * q + t]? = l[q]?.map fun c => bitN c.toNat (7 - t)
  | [], q, t, h => by simp
  | c :: r, 0, t, h => by
    rw [List.flatMap_cons, List.getElem?_append_left (by rw [byteB_len]; omega), Nat.mul_zero, Nat.zero_add, byteB_get c h]; rfl
  | c :: r, q + 1, t, h => by
    rw [List.flatMap_cons, List.getElem?_append_right (by rw [byteB_len]; omega), byteB_len, show 8 * (q + 1) + t - 8 = 8 * q + t by omega, flatB_get r q t h]; rfl
theorem beW_bit (a b c d : UInt8) (j t : Nat) (hj : j < 4) (ht : t < 8) : (beW a b c d).getMsbD (8 * j + t) = bitN ([a, b, c, d].getD j 0).toNat (7 - t) := by
  rw [msb_get _ (by omega), bitN_lsb]
  unfold beW
  obtain rfl | rfl | rfl | rfl : j = 0 ∨ j = 1 ∨ j = 2 ∨ j = 3 := by omega
  all_goals
    obtain rfl | rfl | rfl | rfl | rfl | rfl | rfl | rfl : t = 0 ∨ t = 1 ∨ t = 2 ∨ t = 3 ∨ t = 4 ∨ t = 5 ∨ t = 6 ∨ t = 7 := by omega
    all_goals simp [BitVec.getLsbD_or, BitVec.getLsbD_shiftLeft, BitVec.getLsbD_setWidth]
/-- a bit of a word of a block -/
theorem msgW_bit (l : List UInt8) (i k : Nat) (hk : k < 32) (hi : 4 * i + 4 ≤ l.length) : (l.flatMap byteB)[32 * i + k]? = some ((msgW l i).getMsbD k) := by
  have e : 32 * i + k = 8 * (4 * i + k / 8) + k % 8 := by omega
  rw [e, flatB_get l _ _ (Nat.mod_lt _ (by decide))]
  have hq : 4 * i + k / 8 < l.length := by omega
  rw [List.getElem?_eq_getElem hq, Option.map_some]
  congr 1
  have hb := beW_bit (l.getD (4 * i) 0) (l.getD (4 * i + 1) 0) (l.getD (4 * i + 2) 0) (l.getD (4 * i + 3) 0) (k / 8) (k % 8) (by omega) (Nat.mod_lt _ (by decide))
  rw [show 8 * (k / 8) + k % 8 = k by omega] at hb
  unfold msgW
  rw [hb]
  congr 2
  have hg : l[4 * i + k / 8] = l.getD (4 * i + k / 8) 0 := by rw [List.getD_eq_getElem?_getD, List.getElem?_eq_getElem hq]; rfl
  rw [hg]
  obtain h | h | h | h : k / 8 = 0 ∨ k / 8 = 1 ∨ k / 8 = 2 ∨ k / 8 = 3 := by omega
  all_goals rw [h]; rfl
theorem bitN_mod (y k : Nat) (h : k < 8) : bitN (UInt8.ofNat y).toNat k = bitN y k := by
  unfold bitN
  rw [UInt8.toNat_ofNat']
  obtain rfl | rfl | rfl | rfl | rfl | rfl | rfl | rfl : k = 0 ∨ k = 1 ∨ k = 2 ∨ k = 3 ∨ k = 4 ∨ k = 5 ∨ k = 6 ∨ k = 7 := by omega
  all_goals congr 1; omega
theorem bitN_div (n a k : Nat) : bitN (n / 2 ^ a) k = bitN n (a + k) := by
  unfold bitN
  rw [Nat.div_div_eq_div_mul, ← Nat.pow_add]
theorem zeros_flat (m : Nat) : (List.replicate m (0 : UInt8)).flatMap byteB = List.replicate (8 * m) false := by
  induction m with
  | zero => rfl
  | succ m ih =>
    rw [List.replicate_succ, List.flatMap_cons, ih, show 8 * (m + 1) = 8 + 8 * m by omega, ← List.replicate_append_replicate]
    rfl
theorem tail_flat (n : Nat) : ((List.range 8).map fun i => UInt8.ofNat (n * 8 / 2 ^ (56 - 8 * i))).flatMap byteB = bits64 (8 * n) := by
  apply List.ext_getElem?
  intro i
  by_cases hi : i < 64
  · have e : i = 8 * (i / 8) + i % 8 := by omega
    conv => lhs; rw [e]
    rw [flatB_get _ _ _ (Nat.mod_lt _ (by decide)), List.getElem?_map, List.getElem?_range (by omega)]
    simp only [Option.map_some]
    unfold bits64
    rw [List.getElem?_map, List.getElem?_range hi, Option.map_some]
    congr 1
    rw [bitN_mod _ _ (by omega), bitN_div, Nat.mul_comm n 8]
    congr 1; omega
  · rw [List.getElem?_eq_none (by rw [flatB_len]; simp; omega), List.getElem?_eq_none (by simp [bits64]; omega)]
/-- the document's bits are those of the padded bytes -/
theorem bitsD_is (s : ByteArray) : bitsD s = (s.data.toList ++ padB s.size).flatMap byteB := by
  unfold bitsD soFar padB
  rw [List.take_of_length_le (by simp), List.take_zero, List.append_nil, List.flatMap_append, List.append_assoc]
  congr 1
  rw [List.flatMap_append, List.flatMap_cons, zeros_flat, tail_flat]
  congr 1
  have e : byteB 128 = true :: List.replicate 7 false := by decide
  rw [e, List.cons_append, List.replicate_append_replicate]
  congr 2
  unfold padQ
  omega
/-- a block's bits -/
theorem block_bit (L : List UInt8) (b i k : Nat) (hk : k < 32) (hi : i < 16) (hb : 64 * (b + 1) ≤ L.length) : (L.flatMap byteB)[512 * b + (32 * i + k)]? = some ((msgW ((L.drop (64 * b)).take 64) i).getMsbD k) := by
  have h1 := msgW_bit ((L.drop (64 * b)).take 64) i k hk (by rw [List.length_take, List.length_drop]; omega)
  rw [← h1]
  have e : L.flatMap byteB = (L.take (64 * b)).flatMap byteB ++ ((L.drop (64 * b)).take 64).flatMap byteB ++ (L.drop (64 * b + 64)).flatMap byteB := by
    rw [← List.flatMap_append, ← List.flatMap_append]
    congr 1
    rw [List.append_assoc]
    conv => lhs; rw [← List.take_append_drop (64 * b) L]
    congr 1
    conv => lhs; rw [← List.take_append_drop 64 (L.drop (64 * b))]
    rw [List.drop_drop]
  have hl : ((L.take (64 * b)).flatMap byteB).length = 512 * b := by rw [flatB_len, List.length_take]; omega
  have hl2 : (((L.drop (64 * b)).take 64).flatMap byteB).length = 512 := by rw [flatB_len, List.length_take, List.length_drop]; omega
  rw [e, List.getElem?_append_left (by rw [List.length_append]; omega), List.getElem?_append_right (by omega), hl]
  congr 1; omega
theorem bitsD_len (s : ByteArray) : (bitsD s).length = 8 * (s.size + (padB s.size).length) := by
  rw [bitsD_is, flatB_len, List.length_append]; simp
/-- the highest j bits behind i, as a number -/
def topN (x : W32) (i j : Nat) : Nat := x.toNat / 2 ^ (32 - i - j) % 2 ^ j
theorem topN_zero (x : W32) (i : Nat) : topN x i 0 = 0 := by unfold topN; rw [Nat.pow_zero]; exact Nat.mod_one _
theorem topN_succ (x : W32) (i j : Nat) (h : i + j < 32) : topN x i (j + 1) = 2 * topN x i j + (x.getMsbD (i + j)).toNat := by
  unfold topN
  rw [msb_get _ h]
  show _ = _ + (x.toNat.testBit (31 - (i + j))).toNat
  rw [Nat.toNat_testBit]
  have e1 : 31 - (i + j) = 32 - i - (j + 1) := by omega
  rw [e1]
  have e2 : 32 - i - j = (32 - i - (j + 1)) + 1 := by omega
  rw [e2, Nat.pow_succ 2 (32 - i - (j + 1)), ← Nat.div_div_eq_div_mul]
  generalize x.toNat / 2 ^ (32 - i - (j + 1)) = y
  rw [Nat.pow_succ, Nat.mul_comm (2 ^ j) 2, Nat.mod_mul]
  omega
theorem topN_lt (x : W32) (i j : Nat) : topN x i j < 2 ^ j := Nat.mod_lt _ (Nat.pow_pos (by decide))
theorem topN_bytes (x : W32) : [UInt8.ofNat (topN x 0 8), UInt8.ofNat (topN x 8 8), UInt8.ofNat (topN x 16 8), UInt8.ofNat (topN x 24 8)] = bytesW x := by
  have key : ∀ y : Nat, UInt8.ofNat (y % 2 ^ 8) = UInt8.ofNat y := fun y => by
    apply UInt8.toNat_inj.1
    rw [UInt8.toNat_ofNat', UInt8.toNat_ofNat']
    omega
  unfold bytesW topN
  simp only [key]
  simp
end Go.Proofs.YtpeepdkeicgkiaaGreatDoor
