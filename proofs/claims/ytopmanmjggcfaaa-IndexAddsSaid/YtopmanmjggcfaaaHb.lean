/- The document's digits: Pairs, byteOf, Hexed, Named. -/
import Derived.Test.YtopmanmjggcfaaaHa
namespace Go.Proofs.Ytopmanmjggcfaaa
open Go.RowKit

def digB (p : Nat) : ByteArray := ⟨#[UInt8.ofNat (digN p)]⟩
def pairOf (n : Nat) : ByteArray := ⟨#[UInt8.ofNat (digN (n / 16)), UInt8.ofNat (digN (n % 16))]⟩
def pairsV (n : Nat) : List Value := (List.range n).map fun i => .string (pairOf i)
theorem pairsV_succ (n : Nat) : pairsV (n + 1) = pairsV n ++ [.string (pairOf n)] := by
  unfold pairsV
  rw [List.range_succ, List.map_append]; rfl
theorem pair_of (k j : Nat) (hj : j < 16) : digB k ++ digB j = pairOf (16 * k + j) := by
  unfold pairOf
  rw [show (16 * k + j) / 16 = k by omega, show (16 * k + j) % 16 = j by omega]
  rfl
/-- the sixteen digits in a row of cells -/
def LitAt (W : World) (L : Nat) : Prop := ∀ j, j < 16 → W.cell? ⟨L, j, none⟩ = some (.string (digB j))
def litV : Array Value := #[Value.string { data := #[48] }, Value.string { data := #[49] }, Value.string { data := #[50] }, Value.string { data := #[51] }, Value.string { data := #[52] }, Value.string { data := #[53] }, Value.string { data := #[54] }, Value.string { data := #[55] }, Value.string { data := #[56] }, Value.string { data := #[57] }, Value.string { data := #[97] }, Value.string { data := #[98] }, Value.string { data := #[99] }, Value.string { data := #[100] }, Value.string { data := #[101] }, Value.string { data := #[102] }]
theorem lit_get : ∀ j, j < 16 → litV[j]? = some (.string (digB j))
  | 0, _ => rfl
  | 1, _ => rfl
  | 2, _ => rfl
  | 3, _ => rfl
  | 4, _ => rfl
  | 5, _ => rfl
  | 6, _ => rfl
  | 7, _ => rfl
  | 8, _ => rfl
  | 9, _ => rfl
  | 10, _ => rfl
  | 11, _ => rfl
  | 12, _ => rfl
  | 13, _ => rfl
  | 14, _ => rfl
  | 15, _ => rfl
  | n + 16, h => by omega
theorem LitAt.new (w : World) : LitAt (w.alloc (.cells litV 9)) w.heap.size := fun j hj => by
  rw [World.cell?_alloc_at _ _ _ _ rfl]
  exact lit_get j hj
theorem LitAt.lt {W : World} {L : Nat} (h : LitAt W L) : L < W.heap.size := World.block_lt_of_cell? W _ (h 0 (by decide))
theorem LitAt.grown {W W' : World} {L : Nat} {row : Option Nat} (h : LitAt W L) (hg : W.grownBy W' row) (hne : some L ≠ row) : LitAt W' L := fun j hj => hg.cell (h j hj) hne
theorem LitAt.alloc {W : World} {L : Nat} (h : LitAt W L) (o : Obj) : LitAt (W.alloc o) L := h.grown (World.grownBy_alloc W o none) (by simp)

theorem infoS : (Try.prog.info? 9).map (fun i => (i.zero, i.size, i.bytes)) = some (some (.string ⟨#[]⟩), 1, 16) := by kernel_rfl
set_option maxRecDepth 100000 in
set_option maxHeartbeats 3200000 in
theorem pairs_any (w : World) : Calls Try.prog 50 #[] w fun e w' => ∃ g cap, e = .returned (.slice (some ⟨g, 0, none⟩) 256 cap) ∧ w'.ownsRow w.heap.size 9 1 (.slice (some ⟨g, 0, none⟩) 256 cap) 256 (pairsV 256) ∧ Below w.heap.size w w' := by
  go_enter Try.func50, Try.ntmps50
  go_wp2
  go_loopw [1, 9] (fun v i wr => ∃ (g cap k : Nat), v = .slice (some ⟨g, 0, none⟩) (16 * k : Nat) cap ∧ i = .int .i64 (k : Nat) ∧ k ≤ 16 ∧ wr.ownsRow w.heap.size 9 1 (.slice (some ⟨g, 0, none⟩) (16 * k) cap) (16 * k) (pairsV (16 * k)) ∧ LitAt wr (w.heap.size + 1) ∧ g ≠ w.heap.size + 1 ∧ Below w.heap.size w wr) (fun _ i _ => 16 - (intOf i).toNat)
  case atStart =>
    refine ⟨w.heap.size, 0, 0, rfl, rfl, by decide, ?_, ?_, by omega, ((Below.refl _ w).alloc (Nat.le_refl _) _).alloc (by simp) _⟩
    · exact (World.ownsRow_lit (e := 9) (size := 1) w #[] 0 (Nat.le_refl _) (by decide) rfl).alloc _
    · have := LitAt.new (w.alloc (.cells #[] 9))
      rw [World.size_alloc] at this
      exact this
  case round =>
    obtain ⟨g, cap, k, rfl, rfl, hk, hown, hlit, hgl, hb⟩ := hrel
    have hsz := hb.size
    by_cases hk16 : k < 16
    · have hck := hlit k hk16
      have hdk : decide ((k : Int) < 16) = true := decide_eq_true (by omega)
      have HLIT := Lib.hid hlit
      have hwr := hlit.lt
      obtain ⟨wo, hwo⟩ : ∃ wo : World, wo = wr := ⟨_, rfl⟩
      clear hlit
      go_wp2
      go_loopw [1, 15] (fun v i wq => ∃ (g cap j : Nat), v = .slice (some ⟨g, 0, none⟩) (16 * k + j : Nat) cap ∧ i = .int .i64 (j : Nat) ∧ j ≤ 16 ∧ wq.ownsRow w.heap.size 9 1 (.slice (some ⟨g, 0, none⟩) (16 * k + j) cap) (16 * k + j) (pairsV (16 * k + j)) ∧ LitAt wq (w.heap.size + 1) ∧ LitAt wq wo.heap.size ∧ g ≠ w.heap.size + 1 ∧ g ≠ wo.heap.size ∧ Below w.heap.size w wq) (fun _ i _ => 16 - (intOf i).toNat)
      case atStart =>
        subst hwo
        refine ⟨g, cap, 0, rfl, rfl, by decide, hown.alloc _, HLIT.out.alloc _, LitAt.new _, hgl, ?_, hb.alloc hsz _⟩
        have := (hown.lt g rfl).2
        omega
      case round =>
        obtain ⟨g2, cap2, j, rfl, rfl, hj, hown2, hl1, hl2, hg1, hg2, hb2⟩ := hrel
        have hsz2 := hb2.size
        by_cases hj16 : j < 16
        · have hcj := hl2 j hj16
          have hck := hl1 k hk16
          have HL1 := Lib.hid hl1
          have HL2 := Lib.hid hl2
          have HP := Lib.hid (pair_of k j hj16)
          have hz : (digB k).size + (digB j).size ≤ 10 := by show 1 + 1 ≤ 10; decide
          have hl1' := hl1.lt
          have hl2' := hl2.lt
          have HO := Lib.hid (hown2.lt g2 rfl)
          have HG1 := Lib.hid hg1
          have HG2 := Lib.hid hg2
          clear hl1 hl2 hg1 hg2
          subst hwo
          go_wp2_with (at_builtin; refine wpList_app1 rfl _ _ 25 rfl w.heap.size 9 Try.underlying25 infoS rfl (by decide) (.slice (some ⟨g2, 0, none⟩) (16 * k + j) cap2) _ _ rfl hown2 _ rfl rfl (oneCell_string _) ?_ ?_ ?_ ?_; omega; omega; omega; intro g1 cap1 w5 hown' hgr hbw hg)
          go_roundw
          case rel =>
            refine ⟨g1, cap1, j + 1, rfl, by go_num, by omega, ?_, ?_, ?_, ?_, ?_, hb2.trans hbw⟩
            · rw [← Nat.add_assoc, pairsV_succ, ← HP.out]
              simpa using hown'
            · exact HL1.out.grown hgr (by have := HG1.out; simp [Value.ownBlock]; omega)
            · exact HL2.out.grown hgr (by have := HG2.out; simp [Value.ownBlock]; omega)
            · have := HG1.out
              rcases hg with hg | hg
              · simp [Value.ownBlock] at hg; omega
              · omega
            · have := HG2.out
              rcases hg with hg | hg
              · simp [Value.ownBlock] at hg; omega
              · omega
          case measure => simp [intOf]; omega
        · obtain rfl : j = 16 := by omega
          have HL1 := Lib.hid hl1
          clear hl1 hl2
          go_wp2
          go_roundw
          case rel => exact ⟨g2, cap2, k + 1, rfl, by go_num, by omega, hown2, HL1.out, hg1, hb2⟩
          case measure => simp [intOf]; omega
    · obtain rfl : k = 16 := by omega
      have HL1 := Lib.hid hlit
      clear hlit
      go_wp2
      go_ret
      exact ⟨g, cap, rfl, hown, hb⟩

theorem digN_inv (c : Nat) (h : isHex c = true) : ∃ p, p < 16 ∧ digN p = c := by
  unfold isHex at h
  simp only [Bool.or_eq_true, decide_eq_true_eq] at h
  rcases h with ⟨h1, h2⟩ | ⟨h1, h2⟩
  · exact ⟨c - 48, by omega, by unfold digN; rw [if_pos (by omega)]; omega⟩
  · exact ⟨c - 87, by omega, by unfold digN; rw [if_neg (by omega)]; omega⟩
theorem digN_lt (p : Nat) (h : p < 16) : digN p < 256 := by
  unfold digN
  split <;> omega
theorem pair_hex (j : Nat) (h : j < 256) : allHex (pairOf j).data.toList = true := by
  have h1 := digN_hex (j / 16) (by omega)
  have h2 := digN_hex (j % 16) (by omega)
  have e1 := u8_small (digN_lt (j / 16) (by omega))
  have e2 := u8_small (digN_lt (j % 16) (by omega))
  simp [allHex, pairOf, e1, e2, h1, h2]
theorem pair_none (s : ByteArray) (hs : s.size = 2) (h : ∀ j, j < 256 → pairOf j ≠ s) : allHex s.data.toList = false := by
  cases hx : allHex s.data.toList with
  | false => rfl
  | true =>
    exfalso
    obtain ⟨a, b, hab⟩ : ∃ a b, s.data.toList = [a, b] := by
      have hl : s.data.toList.length = 2 := by simpa using hs
      match h : s.data.toList, hl with
      | [a, b], _ => exact ⟨a, b, rfl⟩
    rw [hab] at hx
    simp only [allHex, List.all_cons, List.all_nil, Bool.and_true, Bool.and_eq_true] at hx
    obtain ⟨x, hx1, hx2⟩ := digN_inv a.toNat hx.1
    obtain ⟨y, hy1, hy2⟩ := digN_inv b.toNat hx.2
    refine h (16 * x + y) (by omega) ?_
    apply ByteArray.ext
    apply Array.toList_inj.1
    rw [hab]
    unfold pairOf
    rw [show (16 * x + y) / 16 = x by omega, show (16 * x + y) % 16 = y by omega, hx2, hy2]
    simp
def ByteOfPost (s : ByteArray) (e : Ending) : Prop := ∃ n : Int, e = .returned (.int .i64 n) ∧ -1 ≤ n ∧ n ≤ 255 ∧ decide (n < 0) = !allHex s.data.toList
theorem bytes_eq {a b : ByteArray} (h : a.toList = b.toList) : a = b := by
  rw [ba_toList, ba_toList] at h
  exact ByteArray.ext (Array.toList_inj.1 h)
set_option maxRecDepth 100000 in
set_option maxHeartbeats 800000 in
theorem byteof_any (s : ByteArray) (w : World) (hs : s.size = 2) : Calls Try.prog 46 #[.string s] w fun e w' => ByteOfPost s e ∧ Below w.heap.size w w' := by
  have HS := Lib.hid hs
  clear hs
  have H1 := Lib.hid (pairs_any w)
  go_enter Try.func46, Try.ntmps46
  go_wp2_with fail
  refine H1.out.mono ?_
  rintro e w1 ⟨g, cap, rfl, hown, hb⟩
  have HC := Lib.hid fun (j : Nat) (hj : j < 256) => (show w1.cell? ⟨g, j, none⟩ = some (.string (pairOf j)) by
    rw [hown.cellAt j (by omega)]
    simp [pairsV, hj])
  clear hown H1
  go_wp2
  go_loop [7] (fun t => ∃ k : Nat, t = .int .i64 (k : Nat) ∧ k ≤ 256 ∧ ∀ j, j < k → pairOf j ≠ s) (fun t => 256 - (intOf t).toNat)
  case atStart => exact ⟨0, rfl, by decide, fun j h => absurd h (by omega)⟩
  case round =>
    obtain ⟨k, rfl, hk, hn⟩ := hrel
    have HN := Lib.hid hn
    clear hn
    by_cases hlt : k < 256
    · have hcell := HC.out k hlt
      have HPH := Lib.hid (pair_hex k hlt)
      generalize hP : pairOf k = P at *
      have HP := Lib.hid hP
      clear hP
      cases hq : (P.toList == s.toList) with
      | true =>
        have HE := Lib.hid (bytes_eq (eq_of_beq hq))
        go_wp2
        go_ret
        exact ⟨⟨k, rfl, by omega, by omega, by rw [← HE.out, HPH.out, decide_eq_false (by omega)]; rfl⟩, hb⟩
      | false =>
        have HE := Lib.hid (show P ≠ s from fun e => by rw [e] at hq; simp at hq)
        go_wp2
        go_round
        case rel => exact ⟨k + 1, by go_num, by omega, fun j hj => by
          rcases (by omega : j < k ∨ j = k) with h | rfl
          · exact HN.out j h
          · rw [HP.out]; exact HE.out⟩
        case measure => simp [intOf]; omega
    · have HF := Lib.hid (pair_none s HS.out fun j hj => HN.out j (by omega))
      go_wp2
      go_ret
      exact ⟨⟨-1, rfl, by omega, by omega, by rw [HF.out]; rfl⟩, hb⟩

theorem hex_two (s : ByteArray) (p : Nat) (h : p + 2 ≤ s.size) : (s.extract p s.size).extract 0 2 = s.extract p (p + 2) := by
  apply ByteArray.ext
  simp only [ByteArray.data_extract, Array.extract_extract]
  congr 1
  have : s.data.size = s.size := rfl
  omega
theorem take_two (s : ByteArray) (p : Nat) (_h : p + 2 ≤ s.size) : s.data.toList.take (p + 2) = s.data.toList.take p ++ (s.extract p (p + 2)).data.toList := by
  rw [ByteArray.data_extract, Array.toList_extract, List.extract_eq_take_drop, show p + 2 - p = 2 by omega, ← List.take_add]
theorem rest_txt (s : ByteArray) (p : Nat) : (s.extract p s.size).toList.isEmpty = decide (s.size ≤ p) := by
  rw [toList_isEmpty, ByteArray.size_extract]
  exact decide_eq_decide.2 (by omega)
def strOf' : Value → ByteArray
  | .string s => s
  | _ => ⟨#[]⟩
set_option maxRecDepth 100000 in
set_option maxHeartbeats 800000 in
theorem hexed_any (s : ByteArray) (w : World) (_hs : s.size ≤ 1099511627776) : Calls Try.prog 41 #[.string s] w fun e w' => e = .returned (.bool (allHex s.data.toList && decide (s.size % 2 = 0))) ∧ Below w.heap.size w w' := by
  have HZ0 := Lib.hid (show s.extract 0 s.size = s by apply ByteArray.ext; simp)
  go_enter Try.func41, Try.ntmps41
  go_wp2
  go_loopw [0] (fun t wr => ∃ p : Nat, t = .string (s.extract p s.size) ∧ p ≤ s.size ∧ p % 2 = 0 ∧ allHex (s.data.toList.take p) = true ∧ Below w.heap.size w wr) (fun t _ => (strOf' t).size)
  case atStart => exact ⟨0, by rw [HZ0.out], Nat.zero_le _, rfl, rfl, Below.refl _ _⟩
  case round =>
    obtain ⟨p, rfl, hp, hp2, hall, hb⟩ := hrel
    have HALL := Lib.hid hall
    have HP2 := Lib.hid hp2
    have hz : (s.extract p s.size).size = s.size - p := by rw [ByteArray.size_extract]; omega
    clear hall hp2
    by_cases h2 : p + 2 ≤ s.size
    · have HB2 := Lib.hid fun W => byteof_any ((s.extract p s.size).extract 0 2) W (by rw [ByteArray.size_extract]; omega)
      have HX := Lib.hid (hex_two s p h2)
      have HT := Lib.hid (take_two s p h2)
      have HEX := Lib.hid (show (s.extract p s.size).extract 2 (s.extract p s.size).size = s.extract (p + 2) s.size by
        rw [hz]
        apply ByteArray.ext
        simp only [ByteArray.data_extract, Array.extract_extract]
        congr 1
        omega)
      have hsz1 : (s.extract p s.size).size + p = s.size := by omega
      clear hz
      generalize hu : s.extract p s.size = u at *
      clear hu
      go_wp2_with fail
      refine (HB2.out _).mono ?_
      rintro e w1 ⟨⟨n, rfl, hn1, hn2, hn3⟩, hb1⟩
      rw [HX.out] at hn3
      cases hx : allHex (s.extract p (p + 2)).data.toList with
      | true =>
        rw [hx] at hn3
        have hq : ¬ n < 0 := by simpa using hn3
        have HAL2 := Lib.hid (show allHex (s.data.toList.take (p + 2)) = true by
          have h1 := HALL.out
          unfold allHex at h1 hx ⊢
          rw [HT.out, List.all_append, h1, hx]; rfl)
        clear hn3 hx
        go_wp2
        go_roundw
        case rel => exact ⟨p + 2, by rw [← HEX.out], h2, by have := HP2.out; omega, HAL2.out, hb.trans (hb1.mono hb.size)⟩
        case measure =>
          have : (s.extract (p + 2) s.size).size = s.size - (p + 2) := by rw [ByteArray.size_extract]; omega
          simp only [strOf']
          rw [HEX.out]; omega
      | false =>
        rw [hx] at hn3
        have hq : n < 0 := by simpa using hn3
        have HF := Lib.hid (show allHex s.data.toList = false by
          have h1 : s.data.toList = s.data.toList.take (p + 2) ++ s.data.toList.drop (p + 2) := (List.take_append_drop _ _).symm
          rw [h1, HT.out]
          unfold allHex at hx ⊢
          rw [List.all_append, List.all_append, hx]; simp)
        clear hn3 hx
        go_wp2
        go_ret
        exact ⟨ret_bool (by rw [HF.out]; rfl), hb.trans (hb1.mono hb.size)⟩
    · have hem := rest_txt s p
      by_cases he : s.size = p
      · have HF := Lib.hid (show (allHex s.data.toList && decide (s.size % 2 = 0)) = true by
          have h1 := HALL.out
          rw [← he, ba_take_all] at h1
          rw [h1, decide_eq_true (by have := HP2.out; omega)]; rfl)
        rw [decide_eq_true (by omega)] at hem
        clear he
        go_wp2
        go_ret
        exact ⟨ret_bool HF.out.symm, hb⟩
      · have HF := Lib.hid (show (allHex s.data.toList && decide (s.size % 2 = 0)) = false by
          rw [decide_eq_false (by have := HP2.out; omega)]; simp)
        rw [decide_eq_false (by omega)] at hem
        clear he
        go_wp2
        go_ret
        exact ⟨ret_bool HF.out.symm, hb⟩
set_option maxRecDepth 100000 in
set_option maxHeartbeats 400000 in
theorem named_any (s : ByteArray) (w : World) (hs : s.size ≤ 1099511627776) : Calls Try.prog 34 #[.string s] w fun e w' => e = .returned (.bool (isNameD s)) ∧ Below w.heap.size w w' := by
  have H1 := Lib.hid (hexed_any s w hs)
  have HN := Lib.hid (show isNameD s = (decide (s.size = 64) && allHex s.data.toList) from rfl)
  by_cases h64 : s.size = 64
  · rw [decide_eq_true h64] at HN
    have he : decide (s.size % 2 = 0) = true := decide_eq_true (by omega)
    rw [he] at H1
    have hq : ((s.size : Int) == 64) = true := by simp; omega
    clear h64 he
    generalize allHex s.data.toList = b at *
    go_enter Try.func34, Try.ntmps34
    go_wp2_with fail
    refine H1.out.mono ?_
    rintro e w1 ⟨rfl, hb⟩
    cases b
    all_goals
      go_wp2
      go_ret
      exact ⟨ret_bool (by rw [HN.out]; rfl), hb⟩
  · rw [decide_eq_false h64] at HN
    have hq : ((s.size : Int) == 64) = false := by simp; omega
    clear h64
    go_enter Try.func34, Try.ntmps34
    go_wp2
    go_ret
    exact ⟨ret_bool (by rw [HN.out]; rfl), Below.refl _ _⟩
end Go.Proofs.Ytopmanmjggcfaaa
