/- The document's digits: Pairs, byteOf, Hexed, Named. Manifests: the plain law. Manifests: the program's reader. Blocks known whole (at this seat: those of the manifests). -/
import Derived.Test.YtpeepdkeicgkiaaGreatDoorZo3
import Derived.Test.YtpeepdkeicgkiaaGreatDoorZo1
import Derived.Deep.Draws
import Derived.Laws.Rows
import Derived.WalkSmall
import Derived.StillTailTactics
namespace Go.Proofs.YtpeepdkeicgkiaaGreatDoor
set_option linter.unusedVariables false
set_option linter.unusedSimpArgs false
set_option linter.unusedSectionVars false
open Go.RowKit

def digB (p : Nat) : ByteArray := ⟨#[UInt8.ofNat (digN p)]⟩
def pairOf (n : Nat) : ByteArray := ⟨#[UInt8.ofNat (digN (n / 16)), UInt8.ofNat (digN (n % 16))]⟩
def pairsV (n : Nat) : List Value := (List.range n).map fun i => .string (pairOf i)
theorem pairsV_succ (n : Nat) : pairsV (n + 1) = pairsV n ++ [.string (pairOf n)] := by
  unfold pairsV
  rw [List.range_succ, List.map_append]; rfl
theorem pair_of (k j : Nat) (hj : j < 16) : digB k ++ digB j = pairOf (16 * k + j) := by
  unfold pairOf
  rw [show (16 * k + j) / 16 = k by omega, show (16 * k + j) % 16 = j by omega]
  rfl
/-- the sixteen digits in a row of cells -/
def LitAt (W : World) (L : Nat) : Prop := ∀ j, j < 16 → W.cell? ⟨L, j, none⟩ = some (.string (digB j))
def litV : Array Value := #[Value.string { data := #[48] }, Value.string { data := #[49] }, Value.string { data := #[50] }, Value.string { data := #[51] }, Value.string { data := #[52] }, Value.string { data := #[53] }, Value.string { data := #[54] }, Value.string { data := #[55] }, Value.string { data := #[56] }, Value.string { data := #[57] }, Value.string { data := #[97] }, Value.string { data := #[98] }, Value.string { data := #[99] }, Value.string { data := #[100] }, Value.string { data := #[101] }, Value.string { data := #[102] }]
theorem lit_get : ∀ j, j < 16 → litV[j]? = some (.string (digB j))
  | 0, _ => rfl
  | 1, _ => rfl
  | 2, _ => rfl
  | 3, _ => rfl
  | 4, _ => rfl
  | 5, _ => rfl
  | 6, _ => rfl
  | 7, _ => rfl
  | 8, _ => rfl
  | 9, _ => rfl
  | 10, _ => rfl
  | 11, _ => rfl
  | 12, _ => rfl
  | 13, _ => rfl
  | 14, _ => rfl
  | 15, _ => rfl
  | n + 16, h => by omega
theorem LitAt.new (w : World) : LitAt (w.alloc (.cells litV 9)) w.heap.size := fun j hj => by
  rw [World.cell?_alloc_at _ _ _ _ rfl]
  exact lit_get j hj
theorem LitAt.lt {W : World} {L : Nat} (h : LitAt W L) : L < W.heap.size := World.block_lt_of_cell? W _ (h 0 (by decide))
theorem LitAt.grown {W W' : World} {L : Nat} {row : Option Nat} (h : LitAt W L) (hg : W.grownBy W' row) (hne : some L ≠ row) : LitAt W' L := fun j hj => hg.cell (h j hj) hne
theorem LitAt.alloc {W : World} {L : Nat} (h : LitAt W L) (o : Obj) : LitAt (W.alloc o) L := h.grown (World.grownBy_alloc W o none) (by simp)

theorem infoS : (Tryz.prog.info? 9).map (fun i => (i.zero, i.size, i.bytes)) = some (some (.string ⟨#[]⟩), 1, 16) := by kernel_rfl
set_option maxRecDepth 100000 in
set_option maxHeartbeats 3200000 in
theorem pairs_any (w : World) : Calls Tryz.prog 79 #[] w fun e w' => ∃ g cap, e = .returned (.slice (some ⟨g, 0, none⟩) 256 cap) ∧ w'.ownsRow w.heap.size 9 1 (.slice (some ⟨g, 0, none⟩) 256 cap) 256 (pairsV 256) ∧ Below w.heap.size w w' := by
  go_enter Tryz.func79, Tryz.ntmps79
  go_wp2
  go_loopw [1, 9] (fun v i wr => ∃ (g cap k : Nat), v = .slice (some ⟨g, 0, none⟩) (16 * k : Nat) cap ∧ i = .int .i64 (k : Nat) ∧ k ≤ 16 ∧ wr.ownsRow w.heap.size 9 1 (.slice (some ⟨g, 0, none⟩) (16 * k) cap) (16 * k) (pairsV (16 * k)) ∧ LitAt wr (w.heap.size + 1) ∧ g ≠ w.heap.size + 1 ∧ Below w.heap.size w wr) (fun _ i _ => 16 - (intOf i).toNat)
  case atStart =>
    refine ⟨w.heap.size, 0, 0, rfl, rfl, by decide, ?_, ?_, by omega, ((Below.refl _ w).alloc (Nat.le_refl _) _).alloc (by simp) _⟩
    · exact (World.ownsRow_lit (e := 9) (size := 1) w #[] 0 (Nat.le_refl _) (by decide) rfl).alloc _
    · have := LitAt.new (w.alloc (.cells #[] 9))
      rw [World.size_alloc] at this
      exact this
  case round =>
    obtain ⟨g, cap, k, rfl, rfl, hk, hown, hlit, hgl, hb⟩ := hrel
    have hsz := hb.size
    by_cases hk16 : k < 16
    · have hck := hlit k hk16
      have hdk : decide ((k : Int) < 16) = true := decide_eq_true (by omega)
      have HLIT := Lib.hid hlit
      have hwr := hlit.lt
      obtain ⟨wo, hwo⟩ : ∃ wo : World, wo = wr := ⟨_, rfl⟩
      clear hlit
      go_wp2
      go_loopw [1, 15] (fun v i wq => ∃ (g cap j : Nat), v = .slice (some ⟨g, 0, none⟩) (16 * k + j : Nat) cap ∧ i = .int .i64 (j : Nat) ∧ j ≤ 16 ∧ wq.ownsRow w.heap.size 9 1 (.slice (some ⟨g, 0, none⟩) (16 * k + j) cap) (16 * k + j) (pairsV (16 * k + j)) ∧ LitAt wq (w.heap.size + 1) ∧ LitAt wq wo.heap.size ∧ g ≠ w.heap.size + 1 ∧ g ≠ wo.heap.size ∧ Below w.heap.size w wq) (fun _ i _ => 16 - (intOf i).toNat)
      case atStart =>
        subst hwo
        refine ⟨g, cap, 0, rfl, rfl, by decide, hown.alloc _, HLIT.out.alloc _, LitAt.new _, hgl, ?_, hb.alloc hsz _⟩
        have := (hown.lt g rfl).2
        omega
      case round =>
        obtain ⟨g2, cap2, j, rfl, rfl, hj, hown2, hl1, hl2, hg1, hg2, hb2⟩ := hrel
        have hsz2 := hb2.size
        by_cases hj16 : j < 16
        · have hcj := hl2 j hj16
          have hck := hl1 k hk16
          have HL1 := Lib.hid hl1
          have HL2 := Lib.hid hl2
          have HP := Lib.hid (pair_of k j hj16)
          have hz : (digB k).size + (digB j).size ≤ 10 := by show 1 + 1 ≤ 10; decide
          have hl1' := hl1.lt
          have hl2' := hl2.lt
          have HO := Lib.hid (hown2.lt g2 rfl)
          have HG1 := Lib.hid hg1
          have HG2 := Lib.hid hg2
          clear hl1 hl2 hg1 hg2
          subst hwo
          go_wp2_with (at_builtin; refine wpList_app1 rfl _ _ 30 rfl w.heap.size 9 Tryz.underlying30 infoS rfl (by decide) (.slice (some ⟨g2, 0, none⟩) (16 * k + j) cap2) _ _ rfl hown2 _ rfl rfl (oneCell_string _) ?_ ?_ ?_ ?_; omega; omega; omega; intro g1 cap1 w5 hown' hgr hbw hg)
          go_roundw
          case rel =>
            refine ⟨g1, cap1, j + 1, rfl, by go_num, by omega, ?_, ?_, ?_, ?_, ?_, hb2.trans hbw⟩
            · rw [← Nat.add_assoc, pairsV_succ, ← HP.out]
              simpa using hown'
            · exact HL1.out.grown hgr (by have := HG1.out; simp [Value.ownBlock]; omega)
            · exact HL2.out.grown hgr (by have := HG2.out; simp [Value.ownBlock]; omega)
            · have := HG1.out
              rcases hg with hg | hg
              · simp [Value.ownBlock] at hg; omega
              · omega
            · have := HG2.out
              rcases hg with hg | hg
              · simp [Value.ownBlock] at hg; omega
              · omega
          case measure => simp [intOf]; omega
        · obtain rfl : j = 16 := by omega
          have HL1 := Lib.hid hl1
          clear hl1 hl2
          go_wp2
          go_roundw
          case rel => exact ⟨g2, cap2, k + 1, rfl, by go_num, by omega, hown2, HL1.out, hg1, hb2⟩
          case measure => simp [intOf]; omega
    · obtain rfl : k = 16 := by omega
      have HL1 := Lib.hid hlit
      clear hlit
      go_wp2
      go_ret
      exact ⟨g, cap, rfl, hown, hb⟩

theorem digN_inv (c : Nat) (h : isHex c = true) : ∃ p, p < 16 ∧ digN p = c := by
  unfold isHex at h
  simp only [Bool.or_eq_true, decide_eq_true_eq] at h
  rcases h with ⟨h1, h2⟩ | ⟨h1, h2⟩
  · exact ⟨c - 48, by omega, by unfold digN; rw [if_pos (by omega)]; omega⟩
  · exact ⟨c - 87, by omega, by unfold digN; rw [if_neg (by omega)]; omega⟩
theorem digN_lt (p : Nat) (h : p < 16) : digN p < 256 := by
  unfold digN
  split <;> omega
theorem pair_hex (j : Nat) (h : j < 256) : allHex (pairOf j).data.toList = true := by
  have h1 := digN_hex (j / 16) (by omega)
  have h2 := digN_hex (j % 16) (by omega)
  have e1 := u8_small (digN_lt (j / 16) (by omega))
  have e2 := u8_small (digN_lt (j % 16) (by omega))
  simp [allHex, pairOf, e1, e2, h1, h2]
theorem pair_none (s : ByteArray) (hs : s.size = 2) (h : ∀ j, j < 256 → pairOf j ≠ s) : allHex s.data.toList = false := by
  cases hx : allHex s.data.toList with
  | false => rfl
  | true =>
    exfalso
    obtain ⟨a, b, hab⟩ : ∃ a b, s.data.toList = [a, b] := by
      have hl : s.data.toList.length = 2 := by simpa using hs
      match h : s.data.toList, hl with
      | [a, b], _ => exact ⟨a, b, rfl⟩
    rw [hab] at hx
    simp only [allHex, List.all_cons, List.all_nil, Bool.and_true, Bool.and_eq_true] at hx
    obtain ⟨x, hx1, hx2⟩ := digN_inv a.toNat hx.1
    obtain ⟨y, hy1, hy2⟩ := digN_inv b.toNat hx.2
    refine h (16 * x + y) (by omega) ?_
    apply ByteArray.ext
    apply Array.toList_inj.1
    rw [hab]
    unfold pairOf
    rw [show (16 * x + y) / 16 = x by omega, show (16 * x + y) % 16 = y by omega, hx2, hy2]
    simp
def ByteOfPost (s : ByteArray) (e : Ending) : Prop := ∃ n : Int, e = .returned (.int .i64 n) ∧ -1 ≤ n ∧ n ≤ 255 ∧ decide (n < 0) = !allHex s.data.toList
theorem bytes_eq {a b : ByteArray} (h : a.toList = b.toList) : a = b := by
  rw [ba_toList, ba_toList] at h
  exact ByteArray.ext (Array.toList_inj.1 h)
set_option maxRecDepth 100000 in
set_option maxHeartbeats 800000 in
theorem byteof_any (s : ByteArray) (w : World) (hs : s.size = 2) : Calls Tryz.prog 96 #[.string s] w fun e w' => ByteOfPost s e ∧ Below w.heap.size w w' := by
  have HS := Lib.hid hs
  clear hs
  have H1 := Lib.hid (pairs_any w)
  go_enter Tryz.func96, Tryz.ntmps96
  go_wp2_with fail
  refine H1.out.mono ?_
  rintro e w1 ⟨g, cap, rfl, hown, hb⟩
  have HC := Lib.hid fun (j : Nat) (hj : j < 256) => (show w1.cell? ⟨g, j, none⟩ = some (.string (pairOf j)) by
    rw [hown.cellAt j (by omega)]
    simp [pairsV, hj])
  clear hown H1
  go_wp2
  go_loop [7] (fun t => ∃ k : Nat, t = .int .i64 (k : Nat) ∧ k ≤ 256 ∧ ∀ j, j < k → pairOf j ≠ s) (fun t => 256 - (intOf t).toNat)
  case atStart => exact ⟨0, rfl, by decide, fun j h => absurd h (by omega)⟩
  case round =>
    obtain ⟨k, rfl, hk, hn⟩ := hrel
    have HN := Lib.hid hn
    clear hn
    by_cases hlt : k < 256
    · have hcell := HC.out k hlt
      have HPH := Lib.hid (pair_hex k hlt)
      generalize hP : pairOf k = P at *
      have HP := Lib.hid hP
      clear hP
      cases hq : (P.toList == s.toList) with
      | true =>
        have HE := Lib.hid (bytes_eq (eq_of_beq hq))
        go_wp2
        go_ret
        exact ⟨⟨k, rfl, by omega, by omega, by rw [← HE.out, HPH.out, decide_eq_false (by omega)]; rfl⟩, hb⟩
      | false =>
        have HE := Lib.hid (show P ≠ s from fun e => by rw [e] at hq; simp at hq)
        go_wp2
        go_round
        case rel => exact ⟨k + 1, by go_num, by omega, fun j hj => by
          rcases (by omega : j < k ∨ j = k) with h | rfl
          · exact HN.out j h
          · rw [HP.out]; exact HE.out⟩
        case measure => simp [intOf]; omega
    · have HF := Lib.hid (pair_none s HS.out fun j hj => HN.out j (by omega))
      go_wp2
      go_ret
      exact ⟨⟨-1, rfl, by omega, by omega, by rw [HF.out]; rfl⟩, hb⟩

theorem hex_two (s : ByteArray) (p : Nat) (h : p + 2 ≤ s.size) : (s.extract p s.size).extract 0 2 = s.extract p (p + 2) := by
  apply ByteArray.ext
  simp only [ByteArray.data_extract, Array.extract_extract]
  congr 1
  have : s.data.size = s.size := rfl
  omega
theorem take_two (s : ByteArray) (p : Nat) (_h : p + 2 ≤ s.size) : s.data.toList.take (p + 2) = s.data.toList.take p ++ (s.extract p (p + 2)).data.toList := by
  rw [ByteArray.data_extract, Array.toList_extract, List.extract_eq_take_drop, show p + 2 - p = 2 by omega, ← List.take_add]
theorem rest_txt (s : ByteArray) (p : Nat) : (s.extract p s.size).toList.isEmpty = decide (s.size ≤ p) := by
  rw [toList_isEmpty, ByteArray.size_extract]
  exact decide_eq_decide.2 (by omega)
def strOf' : Value → ByteArray
  | .string s => s
  | _ => ⟨#[]⟩
set_option maxRecDepth 100000 in
set_option maxHeartbeats 800000 in
theorem hexed_any (s : ByteArray) (w : World) (_hs : s.size ≤ 1099511627776) : Calls Tryz.prog 62 #[.string s] w fun e w' => e = .returned (.bool (allHex s.data.toList && decide (s.size % 2 = 0))) ∧ Below w.heap.size w w' := by
  have HZ0 := Lib.hid (show s.extract 0 s.size = s by apply ByteArray.ext; simp)
  go_enter Tryz.func62, Tryz.ntmps62
  go_wp2
  go_loopw [0] (fun t wr => ∃ p : Nat, t = .string (s.extract p s.size) ∧ p ≤ s.size ∧ p % 2 = 0 ∧ allHex (s.data.toList.take p) = true ∧ Below w.heap.size w wr) (fun t _ => (strOf' t).size)
  case atStart => exact ⟨0, by rw [HZ0.out], Nat.zero_le _, rfl, rfl, Below.refl _ _⟩
  case round =>
    obtain ⟨p, rfl, hp, hp2, hall, hb⟩ := hrel
    have HALL := Lib.hid hall
    have HP2 := Lib.hid hp2
    have hz : (s.extract p s.size).size = s.size - p := by rw [ByteArray.size_extract]; omega
    clear hall hp2
    by_cases h2 : p + 2 ≤ s.size
    · have HB2 := Lib.hid fun W => byteof_any ((s.extract p s.size).extract 0 2) W (by rw [ByteArray.size_extract]; omega)
      have HX := Lib.hid (hex_two s p h2)
      have HT := Lib.hid (take_two s p h2)
      have HEX := Lib.hid (show (s.extract p s.size).extract 2 (s.extract p s.size).size = s.extract (p + 2) s.size by
        rw [hz]
        apply ByteArray.ext
        simp only [ByteArray.data_extract, Array.extract_extract]
        congr 1
        omega)
      have hsz1 : (s.extract p s.size).size + p = s.size := by omega
      clear hz
      generalize hu : s.extract p s.size = u at *
      clear hu
      go_wp2_with fail
      refine (HB2.out _).mono ?_
      rintro e w1 ⟨⟨n, rfl, hn1, hn2, hn3⟩, hb1⟩
      rw [HX.out] at hn3
      cases hx : allHex (s.extract p (p + 2)).data.toList with
      | true =>
        rw [hx] at hn3
        have hq : ¬ n < 0 := by simpa using hn3
        have HAL2 := Lib.hid (show allHex (s.data.toList.take (p + 2)) = true by
          have h1 := HALL.out
          unfold allHex at h1 hx ⊢
          rw [HT.out, List.all_append, h1, hx]; rfl)
        clear hn3 hx
        go_wp2
        go_roundw
        case rel => exact ⟨p + 2, by rw [← HEX.out], h2, by have := HP2.out; omega, HAL2.out, hb.trans (hb1.mono hb.size)⟩
        case measure =>
          have : (s.extract (p + 2) s.size).size = s.size - (p + 2) := by rw [ByteArray.size_extract]; omega
          simp only [strOf']
          rw [HEX.out]; omega
      | false =>
        rw [hx] at hn3
        have hq : n < 0 := by simpa using hn3
        have HF := Lib.hid (show allHex s.data.toList = false by
          have h1 : s.data.toList = s.data.toList.take (p + 2) ++ s.data.toList.drop (p + 2) := (List.take_append_drop _ _).symm
          rw [h1, HT.out]
          unfold allHex at hx ⊢
          rw [List.all_append, List.all_append, hx]; simp)
        clear hn3 hx
        go_wp2
        go_ret
        exact ⟨ret_bool (by rw [HF.out]; rfl), hb.trans (hb1.mono hb.size)⟩
    · have hem := rest_txt s p
      by_cases he : s.size = p
      · have HF := Lib.hid (show (allHex s.data.toList && decide (s.size % 2 = 0)) = true by
          have h1 := HALL.out
          rw [← he, ba_take_all] at h1
          rw [h1, decide_eq_true (by have := HP2.out; omega)]; rfl)
        rw [decide_eq_true (by omega)] at hem
        clear he
        go_wp2
        go_ret
        exact ⟨ret_bool HF.out.symm, hb⟩
      · have HF := Lib.hid (show (allHex s.data.toList && decide (s.size % 2 = 0)) = false by
          rw [decide_eq_false (by have := HP2.out; omega)]; simp)
        rw [decide_eq_false (by omega)] at hem
        clear he
        go_wp2
        go_ret
        exact ⟨ret_bool HF.out.symm, hb⟩
set_option maxRecDepth 100000 in
set_option maxHeartbeats 400000 in
theorem named_any (s : ByteArray) (w : World) (hs : s.size ≤ 1099511627776) : Calls Tryz.prog 28 #[.string s] w fun e w' => e = .returned (.bool (isNameD s)) ∧ Below w.heap.size w w' := by
  have H1 := Lib.hid (hexed_any s w hs)
  have HN := Lib.hid (show isNameD s = (decide (s.size = 64) && allHex s.data.toList) from rfl)
  by_cases h64 : s.size = 64
  · rw [decide_eq_true h64] at HN
    have he : decide (s.size % 2 = 0) = true := decide_eq_true (by omega)
    rw [he] at H1
    have hq : ((s.size : Int) == 64) = true := by simp; omega
    clear h64 he
    generalize allHex s.data.toList = b at *
    go_enter Tryz.func28, Tryz.ntmps28
    go_wp2_with fail
    refine H1.out.mono ?_
    rintro e w1 ⟨rfl, hb⟩
    cases b
    all_goals
      go_wp2
      go_ret
      exact ⟨ret_bool (by rw [HN.out]; rfl), hb⟩
  · rw [decide_eq_false h64] at HN
    have hq : ((s.size : Int) == 64) = false := by simp; omega
    clear h64
    go_enter Tryz.func28, Tryz.ntmps28
    go_wp2
    go_ret
    exact ⟨ret_bool (by rw [HN.out]; rfl), Below.refl _ _⟩
end Go.Proofs.YtpeepdkeicgkiaaGreatDoor
namespace Go.Proofs.YtpeepdkeicgkiaaGreatDoor
set_option linter.unusedVariables false
set_option linter.unusedSimpArgs false
set_option linter.unusedSectionVars false
open Go.RowKit

structure Man where
  time : Int
  tag : ByteArray
  parent : ByteArray
  size : Int
  chunks : List ByteArray
/-- a manifest in form -/
def goodM (m : Man) : Bool :=
  decide (0 ≤ m.time ∧ m.time ≤ 253402300799) && (decide (m.tag.size = 0) || nameOk m.tag) && (decide (m.parent.size = 0) || isNameD m.parent) &&
  decide (1 ≤ m.size ∧ m.size ≤ 4194304 ∧ 1 ≤ m.chunks.length ∧ (m.chunks.length : Int) ≤ m.size) && m.chunks.all fun c => decide (c.size = 32)
def noMan : Man := ⟨0, ⟨#[]⟩, ⟨#[]⟩, 0, []⟩
def bs (l : List UInt8) : ByteArray := ⟨l.toArray⟩
theorem bs_list (l : List UInt8) : (bs l).data.toList = l := by simp [bs]
theorem bs_size (l : List UInt8) : (bs l).size = l.length := rfl
theorem bs_self (s : ByteArray) : bs s.data.toList = s := by
  apply ByteArray.ext
  simp [bs]
theorem bs_inj {a b : List UInt8} (h : bs a = bs b) : a = b := by
  have := congrArg (fun x : ByteArray => x.data.toList) h
  simpa [bs] using this
theorem bs_app (a b : List UInt8) : bs a ++ bs b = bs (a ++ b) := by
  apply ByteArray.ext
  apply Array.toList_inj.1
  simp [bs]
theorem ba_inj {a b : ByteArray} (h : a.data.toList = b.data.toList) : a = b := ByteArray.ext (Array.toList_inj.1 h)
theorem ba_len (s : ByteArray) : s.data.toList.length = s.size := by simp
theorem ext_drop (s : ByteArray) (n : Nat) : (s.extract n s.size).data.toList = s.data.toList.drop n := Lib.extract_to_end s n
theorem ext_take (s : ByteArray) (n : Nat) : (s.extract 0 n).data.toList = s.data.toList.take n := Lib.extract_from_zero s n
theorem bs_drop (l : List UInt8) (n : Nat) : (bs l).extract n (bs l).size = bs (l.drop n) := ba_inj (by rw [ext_drop, bs_list, bs_list])
theorem bs_take (l : List UInt8) (n : Nat) : (bs l).extract 0 n = bs (l.take n) := ba_inj (by rw [ext_take, bs_list, bs_list])
/-- a text behind its length -/
def textL (s : ByteArray) : List UInt8 := varL s.size ++ s.data.toList
/-- all chunks, one behind the other -/
def catL (l : List ByteArray) : List UInt8 := (l.map fun c => c.data.toList).flatten
def manL (m : Man) : List UInt8 := [115, 110, 97, 112] ++ varL m.time.toNat ++ textL m.tag ++ textL m.parent ++ varL m.size.toNat ++ varL m.chunks.length ++ catL m.chunks

/-- what a reader's 'number' gives: the number, the rest, bad? -/
def numS (s : ByteArray) (b : Bool) : Nat × ByteArray × Bool :=
  if (unvarL s.data.toList).2 = 0 ∨ 1099511627776 < (unvarL s.data.toList).1 then (0, s, true) else ((unvarL s.data.toList).1, s.extract (unvarL s.data.toList).2 s.size, b)
/-- what a reader's 'take' gives -/
def takS (s : ByteArray) (b : Bool) (n : Nat) : ByteArray × ByteArray × Bool := if s.size < n then (⟨#[]⟩, s, true) else (s.extract 0 n, s.extract n s.size, b)
def loopS : Nat → ByteArray → Bool → List ByteArray × ByteArray × Bool
  | 0, s, b => ([], s, b)
  | n + 1, s, b => if b = true then ([], s, b) else ((takS s b 32).1 :: (loopS n (takS s b 32).2.1 (takS s b 32).2.2).1, (loopS n (takS s b 32).2.1 (takS s b 32).2.2).2)
theorem numS_bad (s : ByteArray) : (numS s true).2.2 = true := by unfold numS; split <;> rfl
theorem takS_bad (s : ByteArray) (n : Nat) : (takS s true n).2.2 = true := by unfold takS; split <;> rfl
theorem loopS_bad (n : Nat) (s : ByteArray) : (loopS n s true).2.2 = true := by cases n <;> rfl
theorem numS_le (s : ByteArray) (b : Bool) : (numS s b).1 ≤ 1099511627776 ∧ (numS s b).2.1.size ≤ s.size := by
  unfold numS
  split
  · exact ⟨Nat.zero_le _, Nat.le_refl _⟩
  · next h => exact ⟨by simp only; omega, by simp only [ByteArray.size_extract]; omega⟩
theorem takS_le (s : ByteArray) (b : Bool) (n : Nat) : (takS s b n).1.size ≤ s.size ∧ (takS s b n).2.1.size ≤ s.size := by
  unfold takS
  split
  · exact ⟨Nat.zero_le _, Nat.le_refl _⟩
  · exact ⟨by simp only [ByteArray.size_extract]; omega, by simp only [ByteArray.size_extract]; omega⟩
/-- the whole reading, as far as the chunks -/
structure Red where
  m : Man
  s : ByteArray
  bad : Bool
def redS (s0 : ByteArray) (b0 : Bool) : Red :=
  let a1 := numS s0 b0
  let a2 := numS a1.2.1 a1.2.2
  let a3 := takS a2.2.1 a2.2.2 a2.1
  let a4 := numS a3.2.1 a3.2.2
  let a5 := takS a4.2.1 a4.2.2 a4.1
  let a6 := numS a5.2.1 a5.2.2
  let a7 := numS a6.2.1 a6.2.2
  let a8 := loopS a7.1 a7.2.1 a7.2.2
  ⟨⟨a1.1, a3.1, a5.1, a6.1, a8.1⟩, a8.2.1, a8.2.2⟩
def snapL : List UInt8 := [115, 110, 97, 112]
def decS (s : ByteArray) : Man × Int :=
  let r := redS ⟨(Lib.trimPrefix s.data.toList snapL).toArray⟩ (!Lib.hasPrefix s.data.toList snapL)
  if r.bad = true ∨ r.s.size ≠ 0 then (noMan, 3) else if goodM r.m = true then (r.m, 0) else (noMan, 4)

/-- a number at the front is read -/
theorem numS_var (x : Nat) (r : List UInt8) (b : Bool) (h : x ≤ 1099511627776) : numS (bs (varL x ++ r)) b = (x, bs r, b) := by
  have hu := unvar_var x r (by omega)
  have hl := (varF_len 10 x).1
  unfold numS
  rw [bs_list, hu]
  have hne : ¬ ((varL x).length = 0 ∨ 1099511627776 < x) := by
    have : 1 ≤ (varL x).length := hl
    omega
  simp only
  rw [if_neg hne, bs_drop, List.drop_left]
theorem takS_app (t r : List UInt8) (b : Bool) : takS (bs (t ++ r)) b t.length = (bs t, bs r, b) := by
  unfold takS
  rw [if_neg (by rw [bs_size, List.length_append]; omega), bs_take, bs_drop, List.take_left, List.drop_left]
theorem loopS_cat : ∀ (l : List ByteArray) (r : List UInt8), (∀ c ∈ l, c.size = 32) → loopS l.length (bs (catL l ++ r)) false = (l, bs r, false)
  | [], r, _ => rfl
  | c :: l, r, h => by
    have hc := h c (by simp)
    have ht := takS_app c.data.toList (catL l ++ r) false
    rw [ba_len, hc, bs_self] at ht
    have e : catL (c :: l) ++ r = c.data.toList ++ (catL l ++ r) := by simp [catL]
    rw [e]
    simp only [List.length_cons, loopS]
    rw [ht]
    simp only [Bool.false_eq_true, if_false]
    rw [loopS_cat l r (fun x hx => h x (by simp [hx]))]
theorem good_parts {m : Man} (h : goodM m = true) : (0 ≤ m.time ∧ m.time ≤ 253402300799) ∧ (m.tag.size ≤ 60) ∧ m.parent.size ≤ 64 ∧ (1 ≤ m.size ∧ m.size ≤ 4194304 ∧ 1 ≤ m.chunks.length ∧ (m.chunks.length : Int) ≤ m.size) ∧ ∀ c ∈ m.chunks, c.size = 32 := by
  unfold goodM at h
  simp only [Bool.and_eq_true, decide_eq_true_eq, Bool.or_eq_true, List.all_eq_true] at h
  obtain ⟨⟨⟨⟨h1, h2⟩, h3⟩, h4⟩, h5⟩ := h
  refine ⟨h1, ?_, ?_, h4, fun c hc => h5 c hc⟩
  · rcases h2 with h2 | h2
    · omega
    · unfold nameOk at h2
      simp only [Bool.and_eq_true, decide_eq_true_eq] at h2
      exact h2.1.2
  · rcases h3 with h3 | h3
    · omega
    · unfold isNameD at h3
      simp only [Bool.and_eq_true, decide_eq_true_eq] at h3
      omega
theorem redS_text (m : Man) (h : goodM m = true) (r : List UInt8) : redS (bs (varL m.time.toNat ++ textL m.tag ++ textL m.parent ++ varL m.size.toNat ++ varL m.chunks.length ++ catL m.chunks ++ r)) false = ⟨m, bs r, false⟩ := by
  obtain ⟨⟨t1, t2⟩, g1, p1, ⟨z1, z2, c1, c2⟩, hc⟩ := good_parts h
  unfold redS textL
  simp only [List.append_assoc]
  have e1 := numS_var m.time.toNat (varL m.tag.size ++ (m.tag.data.toList ++ (varL m.parent.size ++ (m.parent.data.toList ++ (varL m.size.toNat ++ (varL m.chunks.length ++ (catL m.chunks ++ r))))))) false (by omega)
  have e2 := numS_var m.tag.size (m.tag.data.toList ++ (varL m.parent.size ++ (m.parent.data.toList ++ (varL m.size.toNat ++ (varL m.chunks.length ++ (catL m.chunks ++ r)))))) false (by omega)
  have e3 := takS_app m.tag.data.toList (varL m.parent.size ++ (m.parent.data.toList ++ (varL m.size.toNat ++ (varL m.chunks.length ++ (catL m.chunks ++ r))))) false
  have e4 := numS_var m.parent.size (m.parent.data.toList ++ (varL m.size.toNat ++ (varL m.chunks.length ++ (catL m.chunks ++ r)))) false (by omega)
  have e5 := takS_app m.parent.data.toList (varL m.size.toNat ++ (varL m.chunks.length ++ (catL m.chunks ++ r))) false
  have e6 := numS_var m.size.toNat (varL m.chunks.length ++ (catL m.chunks ++ r)) false (by omega)
  have e7 := numS_var m.chunks.length (catL m.chunks ++ r) false (by omega)
  have e8 := loopS_cat m.chunks r hc
  rw [ba_len, bs_self] at e3 e5
  simp only [e1, e2, e3, e4, e5, e6, e7, e8]
  congr 1
  cases m
  simp only at *
  congr 1 <;> omega
theorem trim_snap (l : List UInt8) : Lib.trimPrefix (snapL ++ l) snapL = l ∧ Lib.hasPrefix (snapL ++ l) snapL = true := by
  constructor
  · simp [Lib.trimPrefix, Lib.hasPrefix, snapL]
  · simp [Lib.hasPrefix, snapL]
/-- THE LAW: what was written is read back -/
theorem decS_text (m : Man) (h : goodM m = true) : decS (bs (manL m)) = (m, 0) := by
  unfold decS
  have e : manL m = snapL ++ (varL m.time.toNat ++ textL m.tag ++ textL m.parent ++ varL m.size.toNat ++ varL m.chunks.length ++ catL m.chunks ++ []) := by
    unfold manL snapL; simp
  rw [bs_list, e, (trim_snap _).1, (trim_snap _).2]
  have := redS_text m h []
  unfold bs at this
  simp only [Bool.not_true]
  rw [this]
  simp [h]
  rfl
theorem manL_inj {a b : Man} (ha : goodM a = true) (hb : goodM b = true) (h : manL a = manL b) : a = b := by
  have e1 := decS_text a ha
  have e2 := decS_text b hb
  rw [h, e2] at e1
  exact (Prod.mk.inj e1).1.symm
end Go.Proofs.YtpeepdkeicgkiaaGreatDoor
namespace Go.Proofs.YtpeepdkeicgkiaaGreatDoor
set_option linter.unusedVariables false
set_option linter.unusedSimpArgs false
set_option linter.unusedSectionVars false
open Go.RowKit

/-- a block known whole (the kit's extra words) -/
def Blk (w : World) (g : Nat) (t : TypeId) (cs : Array Value) : Prop := w.heap[g]? = some (.cells cs t (0, 0))
section
variable {w w' : World} {g : Nat} {t : TypeId} {cs : Array Value}
theorem Blk.lt (h : Blk w g t cs) : g < w.heap.size := by
  rcases Nat.lt_or_ge g w.heap.size with hlt | hge
  · exact hlt
  · unfold Blk at h; rw [Array.getElem?_eq_none hge] at h; cases h
theorem Blk.cell (h : Blk w g t cs) (i : Nat) : w.cell? ⟨g, i, none⟩ = cs[i]? := cell_of_row w g i cs t (0, 0) h
theorem Blk.frozen (h : Blk w g t cs) (i : Nat) : w.frozen? ⟨g, i, none⟩ = false := by
  unfold Blk at h
  simp [World.frozen?, h]
theorem Blk.new (w : World) (t : TypeId) (cs : Array Value) : Blk (w.alloc (.cells cs t)) w.heap.size t cs := heap_alloc_new w _
theorem Blk.drew (h : Blk w g t cs) : Blk w.drew g t cs := h
theorem Blk.alloc (h : Blk w g t cs) (o : Obj) : Blk (w.alloc o) g t cs := (Below.heap_alloc w o g h.lt).trans h
theorem Blk.set_ (h : Blk w g t cs) (i : Nat) (u : Value) : Blk (w.setCell ⟨g, i, none⟩ u) g t (cs.setIfInBounds i u) := by
  unfold Blk at h ⊢
  simp [World.setCell, Array.getElem?_modify, h]
theorem Blk.far (h : Blk w g t cs) {p : Addr} (hp : g ≠ p.block) (u : Value) : Blk (w.setCell p u) g t cs := (Below.heap_setCell w p u g hp).trans h
theorem Blk.below {B : Nat} (h : Blk w g t cs) (hb : Below B w w') (hg : g < B) : Blk w' g t cs := (hb.block g hg).trans h
theorem Blk.grown {row : Option Nat} (h : Blk w g t cs) (hb : w.grownBy w' row) (hg : some g ≠ row) : Blk w' g t cs := (hb.block g h.lt hg).trans h
end
/-- only one block may have changed, and there are no new ones -/
structure Only (g : Nat) (w w' : World) : Prop where
  grown : w.grownBy w' (some g)
  size : w'.heap.size = w.heap.size
theorem Only.set (g i : Nat) (w : World) (u : Value) : Only g w (w.setCell ⟨g, i, none⟩ u) :=
  ⟨⟨rfl, rfl, rfl, by simp, fun k _ hk => Below.heap_setCell w _ _ k (fun e => hk (by rw [e]))⟩, by simp⟩
theorem Only.refl (g : Nat) (w : World) : Only g w w := ⟨World.grownBy.refl w _, rfl⟩
theorem Only.trans {g : Nat} {a b c : World} (h : Only g a b) (k : Only g b c) : Only g a c := ⟨h.grown.trans k.grown, k.size.trans h.size⟩
theorem Only.low {g B : Nat} {a w w' : World} (h : Only g w w') (hb : Below B a w) (hB : B ≤ w.heap.size) (hg : B ≤ g) : Below B a w' := hb.grown h.grown hB fun k hk => by cases hk; exact hg
theorem Only.far {g k : Nat} {w w' : World} {t : TypeId} {cs : Array Value} (h : Only g w w') (hb : Blk w k t cs) (hk : k ≠ g) : Blk w' k t cs := hb.grown h.grown (by simpa using hk)
/-- the reader in its block -/
def Rd (w : World) (g : Nat) (s : ByteArray) (b : Bool) : Prop := Blk w g 119 #[.string s, .bool b]

set_option maxRecDepth 100000 in
set_option maxHeartbeats 800000 in
theorem mnum_any (g : Nat) (s : ByteArray) (b : Bool) (w : World) (hr : Rd w g s b) (hs : s.size ≤ 1099511627776) :
    Calls Tryz.prog 72 #[.pointer (some ⟨g, 0, none⟩)] w fun e w' => e = .returned (.int .i64 (numS s b).1) ∧ Rd w' g (numS s b).2.1 (numS s b).2.2 ∧ Only g w w' := by
  have h0 : w.cell? ⟨g, 0, none⟩ = some (.string s) := hr.cell 0
  have h1 : w.cell? ⟨g, 1, none⟩ = some (.bool b) := hr.cell 1
  have f0 := hr.frozen 0
  have f1 := hr.frozen 1
  have HR := Lib.hid hr
  have HU := Lib.hid fun W => unvar_any s W hs
  obtain ⟨l1, l2, l3⟩ := unvar_le s.data.toList
  rw [ba_len] at l1
  by_cases h : (unvarL s.data.toList).2 = 0 ∨ 1099511627776 < (unvarL s.data.toList).1
  · have HN := Lib.hid (show numS s b = (0, s, true) from if_pos h)
    generalize (unvarL s.data.toList).1 = x at *
    generalize (unvarL s.data.toList).2 = n at *
    clear hr l3
    have hq : ((n : Int) == 0) = true ∨ (((n : Int) == 0) = false ∧ (1099511627776 : Int) < (x : Int)) := by
      by_cases h0 : n = 0
      · exact .inl (by simp; omega)
      · exact .inr ⟨by simp; omega, by omega⟩
    clear h
    rcases hq with hq | ⟨hq, hq2⟩
    all_goals
      go_enter Tryz.func72, Tryz.ntmps72
      go_wp2_with fail
      refine (HU.out w).mono ?_
      rintro e w1 ⟨rfl, rfl⟩
      go_wp2
      go_ret
      exact ⟨ret_int (by rw [HN.out]; rfl), by rw [HN.out]; exact HR.out.set_ 1 (.bool true), Only.set _ _ _ _⟩
  · have HN := Lib.hid (show numS s b = ((unvarL s.data.toList).1, s.extract (unvarL s.data.toList).2 s.size, b) from if_neg h)
    generalize (unvarL s.data.toList).1 = x at *
    generalize (unvarL s.data.toList).2 = n at *
    clear hr l3
    have hq : ((n : Int) == 0) = false := by simp; omega
    have hq2 : decide ((1099511627776 : Int) < (x : Int)) = false := decide_eq_false (by omega)
    have hx : (x : Int) ≤ 1099511627776 := by omega
    have hn1 : (n : Int) ≤ (s.size : Int) := by omega
    clear h
    go_enter Tryz.func72, Tryz.ntmps72
    go_wp2_with fail
    refine (HU.out w).mono ?_
    rintro e w1 ⟨rfl, rfl⟩
    go_wp2
    go_ret
    exact ⟨ret_int (by rw [HN.out]), by rw [HN.out]; exact HR.out.set_ 0 _, Only.set _ _ _ _⟩
set_option maxRecDepth 100000 in
set_option maxHeartbeats 800000 in
theorem mtake_any (g : Nat) (s : ByteArray) (b : Bool) (n : Nat) (w : World) (hr : Rd w g s b) (_hs : s.size ≤ 1099511627776) (hn : n ≤ 1099511627776) :
    Calls Tryz.prog 73 #[.pointer (some ⟨g, 0, none⟩), .int .i64 n] w fun e w' => e = .returned (.string (takS s b n).1) ∧ Rd w' g (takS s b n).2.1 (takS s b n).2.2 ∧ Only g w w' := by
  have h0 : w.cell? ⟨g, 0, none⟩ = some (.string s) := hr.cell 0
  have h1 : w.cell? ⟨g, 1, none⟩ = some (.bool b) := hr.cell 1
  have f0 := hr.frozen 0
  have f1 := hr.frozen 1
  have HR := Lib.hid hr
  by_cases h : s.size < n
  · have HN := Lib.hid (show takS s b n = (⟨#[]⟩, s, true) from if_pos h)
    have hq : (s.size : Int) < (n : Int) := by omega
    clear hr h
    go_enter Tryz.func73, Tryz.ntmps73
    go_wp2
    go_ret
    exact ⟨ret_str (by rw [HN.out]), by rw [HN.out]; exact HR.out.set_ 1 (.bool true), Only.set _ _ _ _⟩
  · have HN := Lib.hid (show takS s b n = (s.extract 0 n, s.extract n s.size, b) from if_neg h)
    have hq : ¬ (s.size : Int) < (n : Int) := by omega
    clear hr h
    go_enter Tryz.func73, Tryz.ntmps73
    go_wp2
    go_ret
    exact ⟨ret_str (by rw [HN.out]), by rw [HN.out]; exact HR.out.set_ 0 _, Only.set _ _ _ _⟩
end Go.Proofs.YtpeepdkeicgkiaaGreatDoor
namespace Go.Proofs.YtpeepdkeicgkiaaGreatDoor
set_option linter.unusedVariables false
set_option linter.unusedSimpArgs false
set_option linter.unusedSectionVars false
end Go.Proofs.YtpeepdkeicgkiaaGreatDoor
