/- Numbers in groups of seven bits: walked. Small facts on rows and texts (a stand-in for the texts on digits). Blocks known whole; rows of texts. The order of items, as a sort calls it. The library's iterator over a row of items, for any body of a loop. The library's Collect of a row of items. walk.Sort, walked: a row in order. Numbers in groups of seven bits: the document's, walked. -/
import Derived.Test.YtaoejgnfoecpfaaDoorJw2
import Derived.Test.YtaoejgnfoecpfaaDoorJw5
import Derived.Lib.OthersKept
import Derived.WalkSmall
import Derived.Deep.Draws
import Derived.Laws.Rows
import Derived.Maps.AppendAt
import Derived.Laws.AppendOwnNone
import Derived.Deep.RegionWith
import Derived.Test.YtaoejgnfoecpfaaDoorJw1
import Derived.Test.YtaoejgnfoecpfaaDoorJw8
import Derived.Shelf.SlSortCmp.InsertionK
import Derived.Test.YtaoejgnfoecpfaaDoorJw7
import Derived.OwnWalkIn
import Derived.Test.YtaoejgnfoecpfaaDoorJw3
namespace Go.Proofs.YtaoejgnfoecpfaaDoor
set_option linter.unusedVariables false
set_option linter.unusedSimpArgs false
set_option linter.unusedSectionVars false
open Go.RowKit

theorem infoB : (Tryd.prog.info? 5).map (fun i => (i.zero, i.size, i.bytes)) = some (some (.int .u8 0), 1, 1) := by kernel_rfl
theorem or128 : ∀ n : Nat, n < 256 → bits BinOp.or IntKind.u8 (n : Int) 128 = ((n % 128 + 128 : Nat) : Int) := by decide +kernel
set_option maxRecDepth 100000 in
set_option maxHeartbeats 800000 in
theorem var_any (x : Nat) (w : World) (hx : x < 18446744073709551616) :
    Calls Tryd.prog 98 #[.int .u64 x] w fun e w' => e = .returned (.string ⟨(varL x).toArray⟩) ∧ Below w.heap.size w w' := by
  have h0 : x < 128 ^ (10 + 1) := Nat.lt_trans hx (by decide)
  have HX := Lib.hid hx
  clear hx
  go_enter Tryd.func98, Tryd.ntmps98
  go_wp2
  go_loopw [0, 3] (fun y v wr => ∃ (z f : Nat) (l : List UInt8) (vv : Value), vv = v ∧ y = .int .u64 (z : Nat) ∧ z ≤ x ∧ wr.ownsRow w.heap.size 5 1 v l.length (bytesV l) ∧ Below w.heap.size w wr ∧ l ++ varF f z = varL x ∧ l.length + f ≤ 10 ∧ z < 128 ^ (f + 1)) (fun y _ _ => (intOf y).toNat)
  case atStart => exact ⟨x, 10, [], _, rfl, rfl, Nat.le_refl _, ⟨rfl, Or.inl ⟨rfl, rfl⟩⟩, Below.refl _ _, rfl, by simp, h0⟩
  case round =>
    obtain ⟨z, f, l, v, rfl, rfl, hzx, hown, hb, hn, hlf, hz⟩ := hrel
    have HN := Lib.hid hn
    have HZ := Lib.hid hz
    have HZLE := Lib.hid hzx
    have HZX := Lib.hid (Nat.lt_of_le_of_lt hzx HX.out)
    have hsz := hb.size
    have hll : l.length ≤ 10 := by omega
    clear hn hz hzx
    by_cases h : z < 128
    · have h1 : ¬ (128 : Int) ≤ (z : Int) := by omega
      have hw8 : IntKind.u8.wrap (z : Int) = (z : Int) := IntWalk.u8_in _ (by omega)
      have hz8 := u8_small (x := z) (by omega)
      have HB1 := Lib.hid (show bytesV (l ++ [UInt8.ofNat z]) = bytesV l ++ [.int .u8 (z : Int)] by rw [bytesV_app]; simp only [bytesV, List.map_cons, List.map_nil]; rw [hz8])
      have HV := Lib.hid (show l ++ [UInt8.ofNat z] = varL x by rw [← varF_small (f := f) h]; exact HN.out)
      clear h hz8
      go_wp2_with (at_builtin; refine wpList_app1 rfl _ _ 46 rfl w.heap.size 5 Tryd.underlying46 infoB rfl (by decide) _ _ _ rfl hown _ rfl rfl (oneCell_int _ _) ?_ ?_ ?_ ?_; omega; omega; omega; intro g1 cap1 w5 hown' hgr hbw _; have hcv := run_convert_own (l := l ++ [UInt8.ofNat z]) 46 9 5 Tryd.underlying46 Tryd.underlying5 Tryd.underlying9 (by rw [HB1.out]; exact hown'))
      go_ret
      exact ⟨ret_str (by rw [HV.out]), hb.trans hbw⟩
    · have h1 : (128 : Int) ≤ (z : Int) := by omega
      obtain ⟨f, rfl⟩ : ∃ g, f = g + 1 := by
        cases f with
        | zero => have := HZ.out; simp at this; omega
        | succ g => exact ⟨g, rfl⟩
      have hw8 : IntKind.u8.wrap (z : Int) = (z : Int) % 256 := by rw [IntKind.wrap_u8]
      have hor : bits BinOp.or IntKind.u8 ((z : Int) % 256) 128 = (z : Int) % 128 + 128 := by
        have := or128 (z % 256) (by omega)
        rw [show ((z % 256 : Nat) : Int) = (z : Int) % 256 by omega] at this
        omega
      have hz8 := u8_small (x := z % 128 + 128) (by omega)
      have HB1 := Lib.hid (show bytesV (l ++ [UInt8.ofNat (z % 128 + 128)]) = bytesV l ++ [.int .u8 ((z : Int) % 128 + 128)] by rw [bytesV_app]; simp only [bytesV, List.map_cons, List.map_nil]; rw [hz8, show ((z % 128 + 128 : Nat) : Int) = (z : Int) % 128 + 128 by omega])
      have HV := Lib.hid (show (l ++ [UInt8.ofNat (z % 128 + 128)]) ++ varF f (z / 128) = varL x by rw [← HN.out, varF_great h, List.append_assoc]; rfl)
      clear h hz8
      go_wp2_with (at_builtin; refine wpList_app1 rfl _ _ 46 rfl w.heap.size 5 Tryd.underlying46 infoB rfl (by decide) _ _ _ rfl hown _ rfl rfl (oneCell_int _ _) ?_ ?_ ?_ ?_; omega; omega; omega; intro g1 cap1 w5 hown' hgr hbw _)
      go_roundw
      case rel =>
        refine ⟨z / 128, f, l ++ [UInt8.ofNat (z % 128 + 128)], _, rfl, ?_, ?_, ?_, hb.trans hbw, HV.out, ?_, ?_⟩
        · rw [show ((z / 128 : Nat) : Int) = (z : Int) / 128 by omega]
        · exact Nat.le_trans (Nat.div_le_self _ _) HZLE.out
        · rw [HB1.out]; simpa using hown'
        · simp; omega
        · rw [Nat.div_lt_iff_lt_mul (by decide), Nat.mul_comm, ← pow128]; exact HZ.out
      case measure => simp [intOf]; omega

theorem ret_2 {k1 k2 : IntKind} {a b c d : Int} (h1 : a = c) (h2 : b = d) : Ending.returned (.tuple #[.int k1 a, .int k2 b]) = .returned (.tuple #[.int k1 c, .int k2 d]) := by rw [h1, h2]
theorem acc_or (y c k : Nat) (hy : y < 128 ^ k) (hc : c < 256) (hk : k ≤ 9) (h9 : k = 9 → c ≤ 1) : bits BinOp.or IntKind.u64 (y : Int) (IntKind.u64.wrap (bits BinOp.and IntKind.u64 (c : Int) 127 * 2 ^ (7 * k))) = ((y + c % 128 * 128 ^ k : Nat) : Int) := by
  have e1 : bits BinOp.and IntKind.u64 (c : Int) 127 = ((c % 128 : Nat) : Int) := by
    have := bits_and_u64_nat c 127 (by omega) (by decide)
    rw [show ((127 : Nat) : Int) = 127 from rfl] at this
    rw [this, show (127 : Nat) = 2 ^ 7 - 1 from rfl, Nat.and_two_pow_sub_one_eq_mod]
  have e2 : (2 : Nat) ^ (7 * k) = 128 ^ k := by rw [Nat.pow_mul]
  have e3 : ((c % 128 : Nat) : Int) * 2 ^ (7 * k) = ((c % 128 * 128 ^ k : Nat) : Int) := by
    rw [← e2]; simp
  have hp : 128 ^ k ≤ 128 ^ 9 := Nat.pow_le_pow_right (by decide) hk
  have hlt : c % 128 * 128 ^ k < 18446744073709551616 := by
    by_cases h : k = 9
    · have := h9 h
      have : c % 128 * 128 ^ k ≤ 1 * 128 ^ 9 := Nat.mul_le_mul (by omega) hp
      exact Nat.lt_of_le_of_lt this (by decide)
    · have h8 : 128 ^ k ≤ 128 ^ 8 := Nat.pow_le_pow_right (by decide) (by omega)
      have : c % 128 * 128 ^ k ≤ 127 * 128 ^ 8 := Nat.mul_le_mul (by omega) h8
      exact Nat.lt_of_le_of_lt this (by decide)
  have hy2 : y < 18446744073709551616 := Nat.lt_trans (Nat.lt_of_lt_of_le hy hp) (by decide)
  rw [e1, e3, IntKind.wrap_u64, Int.emod_eq_of_lt (by omega) (by omega), bits_or_u64_nat _ _ hy2 hlt]
  congr 1
  have := Nat.two_pow_add_eq_or_of_lt (i := 7 * k) (b := y) (by rw [e2]; exact hy) (c % 128)
  rw [e2, Nat.mul_comm] at this
  rw [Nat.or_comm, ← this, Nat.add_comm]
theorem acc_lt (y c k : Nat) (hy : y < 128 ^ k) : y + c % 128 * 128 ^ k < 128 ^ (k + 1) := by
  have : c % 128 * 128 ^ k ≤ 127 * 128 ^ k := Nat.mul_le_mul_right _ (by omega)
  rw [pow128]
  omega

set_option maxRecDepth 100000 in
set_option maxHeartbeats 1600000 in
theorem unvar_any (s : ByteArray) (w : World) (_hs : s.size ≤ 1099511627776) :
    Calls Tryd.prog 99 #[.string s] w fun e w' => e = .returned (.tuple #[.int .u64 (unvarL s.data.toList).1, .int .i64 (unvarL s.data.toList).2]) ∧ w = w' := by
  go_enter Tryd.func99, Tryd.ntmps99
  go_wp2
  go_loop [4, 5] (fun a i => ∃ (k f y : Nat), a = .int .u64 (y : Nat) ∧ i = .int .i64 (k : Nat) ∧ k + f = 10 ∧ k ≤ s.size ∧ y < 128 ^ k ∧ unv f k y (s.data.toList.drop k) = unvarL s.data.toList) (fun _ i => 10 - (intOf i).toNat)
  case atStart => exact ⟨0, 10, 0, rfl, rfl, rfl, Nat.zero_le _, by decide, by rw [List.drop_zero]; rfl⟩
  case round =>
    obtain ⟨k, f, y, rfl, rfl, hkf, hk, hy, hn⟩ := hrel
    have HN := Lib.hid hn
    have HY := Lib.hid hy
    clear hn hy
    by_cases hlt : k < s.size
    · by_cases h10 : k < 10
      · obtain ⟨f, rfl⟩ : ∃ g, f = g + 1 := ⟨f - 1, by omega⟩
        have HDR := Lib.hid (show s.data.toList.drop k = s[k] :: s.data.toList.drop (k + 1) from List.drop_eq_getElem_cons (by simpa using hlt))
        have hc := s[k].toNat_lt
        have HU := Lib.hid (show unv (f + 1) k y (s[k] :: s.data.toList.drop (k + 1)) = if (k = 9 ∧ 1 < s[k].toNat) ∨ (0 < k ∧ s[k].toNat = 0) then (0, 0) else if s[k].toNat < 128 then (y + s[k].toNat * 128 ^ k, k + 1) else unv f (k + 1) (y + s[k].toNat % 128 * 128 ^ k) (s.data.toList.drop (k + 1)) from rfl)
        have hl0 : (0 : Int) ≤ (k : Int) := by omega
        have hl1 : (k : Int) < (s.size : Int) := by omega
        by_cases hA : k = 9 ∧ 1 < s[k].toNat
        · have HF := Lib.hid (show unvarL s.data.toList = (0, 0) by rw [← HN.out, HDR.out, HU.out, if_pos (Or.inl hA)])
          have q1 : ((k : Int) == 9) = true := by simp; omega
          have q2 : (1 : Int) < (s[k].toNat : Int) := by omega
          clear hA
          go_wp2
          go_ret2
          exact ⟨by rw [HF.out]; rfl, rfl⟩
        · by_cases hB : 0 < k ∧ s[k].toNat = 0
          · have HF := Lib.hid (show unvarL s.data.toList = (0, 0) by rw [← HN.out, HDR.out, HU.out, if_pos (Or.inr hB)])
            have q3 : (0 : Int) < (k : Int) := by omega
            have q4 : ((s[k].toNat : Int) == 0) = true := by simp; omega
            have q2 : ¬ (1 : Int) < (s[k].toNat : Int) := by omega
            have q2' : decide ((1 : Int) < (s[k].toNat : Int)) = false := decide_eq_false q2
            clear hA hB
            cases q1 : ((k : Int) == 9)
            all_goals
              go_wp2
              go_ret2
              exact ⟨by rw [HF.out]; rfl, rfl⟩
          · have HACC := Lib.hid (fun (h9 : k ≤ 9) (h1 : k = 9 → s[k].toNat ≤ 1) => acc_or y s[k].toNat k HY.out hc h9 h1)
            by_cases h128 : s[k].toNat < 128
            · have HF := Lib.hid (show unvarL s.data.toList = (y + s[k].toNat * 128 ^ k, k + 1) by rw [← HN.out, HDR.out, HU.out, if_neg (by omega), if_pos h128])
              have HM := Lib.hid (show s[k].toNat % 128 = s[k].toNat from Nat.mod_eq_of_lt h128)
              have q5 : (s[k].toNat : Int) < 128 := by omega
              have HB' := Lib.hid hB
              have HA' := Lib.hid hA
              clear hA hB
              rcases (by omega : k = 0 ∨ (0 < k ∧ k < 9) ∨ k = 9) with g | ⟨g1, g2⟩ | g
              · have HG := Lib.hid g
                have q3 : ¬ (0 : Int) < (k : Int) := by omega
                have q1 : ((k : Int) == 9) = false := by simp; omega
                have q3' : decide ((0 : Int) < (k : Int)) = false := decide_eq_false q3
                clear g
                go_wp2
                go_ret2
                exact ⟨ret_2 (by rw [HF.out]; have := HACC.out (by have := HG.out; omega) (by have := HG.out; omega); rw [HM.out] at this; have h0 := HG.out; subst h0; simpa using this) (by rw [HF.out]; simp), rfl⟩
              · have q1 : ((k : Int) == 9) = false := by simp; omega
                have q3 : (0 : Int) < (k : Int) := by omega
                have q4 : ((s[k].toNat : Int) == 0) = false := by have := HB'.out; simp; omega
                go_wp2
                go_ret2
                exact ⟨ret_2 (by rw [HF.out]; have := HACC.out (by omega) (by omega); rw [HM.out] at this; exact this) (by rw [HF.out]; simp), rfl⟩
              · have HG := Lib.hid g
                have q1 : ((k : Int) == 9) = true := by simp; omega
                have q3 : (0 : Int) < (k : Int) := by omega
                have q2 : decide ((1 : Int) < (s[k].toNat : Int)) = false := decide_eq_false (by have := HA'.out; omega)
                have q4 : ((s[k].toNat : Int) == 0) = false := by have := HB'.out; simp; omega
                clear g
                go_wp2
                go_ret2
                exact ⟨ret_2 (by rw [HF.out]; have := HACC.out (by have := HG.out; omega) (by have := HA'.out; have := HG.out; omega); rw [HM.out] at this; have h0 := HG.out; subst h0; simpa using this) (by rw [HF.out]; simp), rfl⟩
            · have h9 : k < 9 := by omega
              have HF := Lib.hid (show unv f (k + 1) (y + s[k].toNat % 128 * 128 ^ k) (s.data.toList.drop (k + 1)) = unvarL s.data.toList by rw [← HN.out, HDR.out, HU.out, if_neg (by omega), if_neg h128])
              have HL := Lib.hid (acc_lt y s[k].toNat k HY.out)
              have HAC := Lib.hid (HACC.out (by omega) (by omega))
              have q1 : ((k : Int) == 9) = false := by simp; omega
              have q4 : ((s[k].toNat : Int) == 0) = false := by simp; omega
              have q5 : ¬ (s[k].toNat : Int) < 128 := by omega
              clear hA hB HACC
              go_wp2
              all_goals
                go_round
                case rel => exact ⟨k + 1, f, _, by rw [HAC.out], by go_num, by omega, by omega, HL.out, HF.out⟩
                case measure => simp [intOf]; omega
      · have HF := Lib.hid (show unvarL s.data.toList = (0, 0) by rw [← HN.out, show f = 0 by omega]; rfl)
        go_wp2
        go_ret2
        exact ⟨ret_2 (by rw [HF.out]; rfl) (by rw [HF.out]; rfl), rfl⟩
    · have HF := Lib.hid (show unvarL s.data.toList = (0, 0) by
        rw [← HN.out, List.drop_of_length_le (by simp; omega)]
        cases f <;> rfl)
      go_wp2
      go_ret2
      exact ⟨ret_2 (by rw [HF.out]; rfl) (by rw [HF.out]; rfl), rfl⟩
end Go.Proofs.YtaoejgnfoecpfaaDoor
namespace Go.Proofs.YtaoejgnfoecpfaaDoor
set_option linter.unusedVariables false
set_option linter.unusedSimpArgs false
set_option linter.unusedSectionVars false
open Go.RowKit

theorem ownsRow_below {B : Nat} {e : TypeId} {k : Nat} {v : Value} {n : Nat} {xs : List Value} {w w' : World} (h : w.ownsRow B e k v n xs) (hb : Below w.heap.size w w') : w'.ownsRow B e k v n xs :=
  h.kept (row := none) ⟨hb.os, hb.tape, hb.output, hb.size, fun j hj _ => hb.block j hj⟩ (by cases hv : v.ownBlock <;> simp)
theorem infoS : (Tryd.prog.info? 9).map (fun i => (i.zero, i.size, i.bytes)) = some (some (.string ⟨#[]⟩), 1, 16) := by kernel_rfl
theorem bytes_eq {a b : ByteArray} (h : a.toList = b.toList) : a = b := by
  rw [ba_toList, ba_toList] at h
  exact ByteArray.ext (Array.toList_inj.1 h)
theorem rest_txt (s : ByteArray) (p : Nat) : (s.extract p s.size).toList.isEmpty = decide (s.size ≤ p) := by
  rw [toList_isEmpty, ByteArray.size_extract]
  exact decide_eq_decide.2 (by omega)
end Go.Proofs.YtaoejgnfoecpfaaDoor
namespace Go.Proofs.YtaoejgnfoecpfaaDoor
set_option linter.unusedVariables false
set_option linter.unusedSimpArgs false
set_option linter.unusedSectionVars false
open Go.RowKit

/-- a block known whole (the kit's extra words) -/
def Blk (w : World) (g : Nat) (t : TypeId) (cs : Array Value) : Prop := w.heap[g]? = some (.cells cs t (0, 0))
section
variable {w w' : World} {g : Nat} {t : TypeId} {cs : Array Value}
theorem Blk.lt (h : Blk w g t cs) : g < w.heap.size := by
  rcases Nat.lt_or_ge g w.heap.size with hlt | hge
  · exact hlt
  · unfold Blk at h; rw [Array.getElem?_eq_none hge] at h; cases h
theorem Blk.cell (h : Blk w g t cs) (i : Nat) : w.cell? ⟨g, i, none⟩ = cs[i]? := cell_of_row w g i cs t (0, 0) h
theorem Blk.frozen (h : Blk w g t cs) (i : Nat) : w.frozen? ⟨g, i, none⟩ = false := by
  unfold Blk at h
  simp [World.frozen?, h]
theorem Blk.new (w : World) (t : TypeId) (cs : Array Value) : Blk (w.alloc (.cells cs t)) w.heap.size t cs := heap_alloc_new w _
theorem Blk.drew (h : Blk w g t cs) : Blk w.drew g t cs := h
theorem Blk.alloc (h : Blk w g t cs) (o : Obj) : Blk (w.alloc o) g t cs := (Below.heap_alloc w o g h.lt).trans h
theorem Blk.set_ (h : Blk w g t cs) (i : Nat) (u : Value) : Blk (w.setCell ⟨g, i, none⟩ u) g t (cs.setIfInBounds i u) := by
  unfold Blk at h ⊢
  simp [World.setCell, Array.getElem?_modify, h]
theorem Blk.far (h : Blk w g t cs) {p : Addr} (hp : g ≠ p.block) (u : Value) : Blk (w.setCell p u) g t cs := (Below.heap_setCell w p u g hp).trans h
theorem Blk.below {B : Nat} (h : Blk w g t cs) (hb : Below B w w') (hg : g < B) : Blk w' g t cs := (hb.block g hg).trans h
theorem Blk.grown {row : Option Nat} (h : Blk w g t cs) (hb : w.grownBy w' row) (hg : some g ≠ row) : Blk w' g t cs := (hb.block g h.lt hg).trans h
end
/-- only one block may have changed, and there are no new ones -/
structure Only (g : Nat) (w w' : World) : Prop where
  grown : w.grownBy w' (some g)
  size : w'.heap.size = w.heap.size
theorem Only.set (g i : Nat) (w : World) (u : Value) : Only g w (w.setCell ⟨g, i, none⟩ u) :=
  ⟨⟨rfl, rfl, rfl, by simp, fun k _ hk => Below.heap_setCell w _ _ k (fun e => hk (by rw [e]))⟩, by simp⟩
theorem Only.refl (g : Nat) (w : World) : Only g w w := ⟨World.grownBy.refl w _, rfl⟩
theorem Only.trans {g : Nat} {a b c : World} (h : Only g a b) (k : Only g b c) : Only g a c := ⟨h.grown.trans k.grown, k.size.trans h.size⟩
theorem Only.low {g B : Nat} {a w w' : World} (h : Only g w w') (hb : Below B a w) (hB : B ≤ w.heap.size) (hg : B ≤ g) : Below B a w' := hb.grown h.grown hB fun k hk => by cases hk; exact hg
theorem Only.far {g k : Nat} {w w' : World} {t : TypeId} {cs : Array Value} (h : Only g w w') (hb : Blk w k t cs) (hk : k ≠ g) : Blk w' k t cs := hb.grown h.grown (by simpa using hk)
/-- texts at an address, if there are any -/
def StrsA (W : World) (B : Nat) (A : Option Addr) (l : List ByteArray) : Prop := 0 < l.length → ∃ b o, A = some ⟨b, o, none⟩ ∧ b < B ∧ ∀ (j : Nat) (u : ByteArray), l[j]? = some u → W.cell? ⟨b, o + j, none⟩ = some (.string u)
def strsV (l : List ByteArray) : List Value := l.map Value.string
theorem own_strs {w : World} {B n c : Nat} {A : Option Addr} {l : List ByteArray} (h : w.ownsRow B 9 1 (.slice A n c) n (strsV l)) : StrsA w w.heap.size A l ∧ n = l.length := by
  have hn : n = l.length := by
    have := h.1
    simp [strsV] at this
    omega
  refine ⟨fun hl => ?_, hn⟩
  rcases h.2 with ⟨hv, _⟩ | ⟨g, cap, cur, hv, _⟩
  · simp at hv; omega
  · simp only [Value.slice.injEq] at hv
    obtain ⟨rfl, _, rfl⟩ := hv
    refine ⟨g, 0, rfl, (h.lt g rfl).2, fun j u hj => ?_⟩
    have hjl : j < l.length := (List.getElem?_eq_some_iff.1 hj).1
    rw [Nat.zero_add, h.cellAt j (by omega)]
    simp [strsV, hj]
theorem own_strs2 {w : World} {B n c : Nat} {A : Option Addr} {l : List ByteArray} (h : w.ownsRow B 9 1 (.slice A n c) n (strsV l)) (hl : 0 < l.length) : ∃ g, A = some ⟨g, 0, none⟩ ∧ B ≤ g ∧ g < w.heap.size ∧ ∀ (j : Nat) (u : ByteArray), l[j]? = some u → w.cell? ⟨g, 0 + j, none⟩ = some (.string u) := by
  have hn : n = l.length := by
    have := h.1
    simp [strsV] at this
    omega
  rcases h.2 with ⟨hv, _⟩ | ⟨g, cap, cur, hv, _⟩
  · simp at hv; omega
  · simp only [Value.slice.injEq] at hv
    obtain ⟨rfl, _, rfl⟩ := hv
    refine ⟨g, rfl, (h.lt g rfl).1, (h.lt g rfl).2, fun j u hj => ?_⟩
    have hjl : j < l.length := (List.getElem?_eq_some_iff.1 hj).1
    rw [Nat.zero_add, h.cellAt j (by omega)]
    simp [strsV, hj]
theorem own_form {w : World} {B n : Nat} {t : TypeId} {v : Value} {xs : List Value} (h : w.ownsRow B t 1 v n xs) : ∃ A c, v = .slice A n c ∧ n ≤ c := by
  rcases h.2 with ⟨hv, hn⟩ | ⟨g, cap, cur, hv, _, _, hc, _⟩
  · exact ⟨none, 0, by rw [hv, hn], by omega⟩
  · exact ⟨some ⟨g, 0, none⟩, cap, hv, hc⟩
theorem addr_add (b o j : Nat) : (⟨b, o, none⟩ : Addr).add j = ⟨b, o + j, none⟩ := by
  unfold Addr.add
  split <;> simp_all
theorem own_far {w : World} {B : Nat} {e : TypeId} {z n : Nat} {v : Value} {xs : List Value} (h : w.ownsRow B e z v n xs) {j : Nat} (hj : j < B) : v.ownBlock = none ∨ v.ownBlock ≠ some j := by
  cases hv : v.ownBlock with
  | none => exact .inl rfl
  | some k =>
    refine .inr fun e => ?_
    have := (h.lt k hv).1
    simp only [Option.some.injEq] at e
    omega
theorem own_ne {w : World} {B : Nat} {e : TypeId} {z n : Nat} {v : Value} {xs : List Value} (h : w.ownsRow B e z v n xs) {j : Nat} (hj : j < B) : some j ≠ v.ownBlock := fun e => by
  have := (h.lt j e.symm).1
  omega
theorem StrsA.below {W W' : World} {A : Option Addr} {l : List ByteArray} (h : StrsA W W.heap.size A l) (hb : Below W.heap.size W W') : StrsA W' W'.heap.size A l := fun hl => by
  obtain ⟨b, o, h1, h2, h3⟩ := h hl
  exact ⟨b, o, h1, Nat.lt_of_lt_of_le h2 hb.size, fun j u hj => (hb.cell (p := ⟨b, o + j, none⟩) h2).trans (h3 j u hj)⟩
/-- texts that lie below the boxes of a call -/
theorem StrsA.low {w W : World} {A : Option Addr} {l : List ByteArray} (h : StrsA w w.heap.size A l) (hb : Below w.heap.size w W) : StrsA W W.heap.size A l := h.below hb
theorem txt_ne (a b : ByteArray) : (a.toList == b.toList) = decide (a = b) := by
  by_cases h : a = b
  · rw [h]; simp
  · rw [decide_eq_false h, beq_eq_false_iff_ne]
    exact fun e => h (bytes_eq e)
end Go.Proofs.YtaoejgnfoecpfaaDoor
namespace Go.Proofs.YtaoejgnfoecpfaaDoor
set_option linter.unusedVariables false
set_option linter.unusedSimpArgs false
set_option linter.unusedSectionVars false
open Go Go.RowKit Go.Sort

structure Itm where
  path : ByteArray
  kind : Int
  mode : Int
  time : Int
  data : ByteArray
instance : Inhabited Itm := ⟨⟨⟨#[]⟩, 0, 0, 0, ⟨#[]⟩⟩⟩
def itmC (x : Itm) : List Value := [.string x.path, .int .i64 x.kind, .int .i64 x.mode, .int .i64 x.time, .string x.data]
/-- items of paths that are not long -/
structure PIt where
  it : Itm
  ok : it.path.size ≤ 1000000
instance : Inhabited PIt := ⟨⟨default, by decide⟩⟩
def pitC (x : PIt) : List Value := itmC x.it
theorem pitC_len (x : PIt) : (pitC x).length = 5 := rfl
theorem pitC_one (x : PIt) : ∀ v ∈ pitC x, v.oneCell' = true := fun v hv => by
  simp only [pitC, itmC, List.mem_cons, List.not_mem_nil, or_false] at hv
  rcases hv with rfl | rfl | rfl | rfl | rfl <;> rfl
def cfP (x y : PIt) : Int := cmpL (partsP x.it.path) (partsP y.it.path)
set_option maxRecDepth 100000 in
set_option maxHeartbeats 800000 in
/-- as pcompare_any, with the world to the letter -/
theorem pcompareX (a b : ByteArray) (w : World) (he : ∃ m, w.cell? ⟨0, 0, none⟩ = some (.int .i64 m)) (ha : a.size ≤ 1000000) (hb : b.size ≤ 1000000) :
    Calls Tryd.prog 88 #[.string a, .string b] w fun e w' => e = .returned (.int .i64 (cmpL (partsP a) (partsP b))) ∧ ∃ os, w' = grow w os := by
  obtain ⟨m, hm⟩ := he
  obtain ⟨a1, a2⟩ := split_parts a.size a (Nat.le_refl _)
  obtain ⟨b1, b2⟩ := split_parts b.size b (Nat.le_refl _)
  have hca : Lib.countB a slash ≤ a.size + 1 := by unfold Lib.countB; exact Lib.count_le _ _
  have hcb : Lib.countB b slash ≤ b.size + 1 := by unfold Lib.countB; exact Lib.count_le _ _
  have h1 := Tryd.strings_Split a slash m w (by omega) hm (by decide)
  rw [a1, ← a2] at h1
  have hw1 : Below w.heap.size w (w.alloc (.cells ((partsP a).map Value.string).toArray 9)) := (Below.refl _ w).alloc (Nat.le_refl _) _
  have hm1 := (hw1.cell (p := ⟨0, 0, none⟩) (cellLt hm)).trans hm
  have h2 := Tryd.strings_Split b slash m _ (by omega) hm1 (by decide)
  rw [b1, ← b2] at h2
  have hA := partsP_ne a
  have hB := partsP_ne b
  have hz1 : (w.alloc (.cells ((partsP a).map Value.string).toArray 9)).heap.size = w.heap.size + 1 := by simp
  have hr1 : StrRow ((w.alloc (.cells ((partsP a).map Value.string).toArray 9)).alloc (.cells ((partsP b).map Value.string).toArray 9)) w.heap.size (partsP a) := fun j u hj => by
    rw [((Below.refl (w.heap.size + 1) (w.alloc (.cells ((partsP a).map Value.string).toArray 9))).alloc (by simp) _).cell (p := ⟨w.heap.size, j, none⟩) (by simp)]
    exact strRow_new w (partsP a) j u hj
  have hr2 : StrRow ((w.alloc (.cells ((partsP a).map Value.string).toArray 9)).alloc (.cells ((partsP b).map Value.string).toArray 9)) (w.alloc (.cells ((partsP a).map Value.string).toArray 9)).heap.size (partsP b) := fun j u hj => strRow_new _ (partsP b) j u hj
  have h3 := slcmp_any (partsP a) (partsP b) w.heap.size _ (partsP a).length (partsP b).length _ hr1 hr2 (by omega) (by omega)
  have hg : ∃ os, (w.alloc (.cells ((partsP a).map Value.string).toArray 9)).alloc (.cells ((partsP b).map Value.string).toArray 9) = grow w os := ⟨_, by rw [alloc_eq_grow, alloc_eq_grow, grow_grow]⟩
  unfold slash at h1 h2
  rw [hz1] at h2 h3
  have H1 := Lib.hid h1
  have H2 := Lib.hid h2
  have H3 := Lib.hid h3
  have HG := Lib.hid hg
  clear h1 h2 h3 hr1 hr2 hm1 hm hw1 a1 b1 a2 b2 hz1 hca hcb hA hB ha hb hg
  go_enter Tryd.func88, Tryd.ntmps88
  go_wp2_with fail
  refine H1.out.mono ?_
  rintro e w1 ⟨rfl, rfl⟩
  go_wp2_with fail
  refine H2.out.mono ?_
  rintro e w1 ⟨rfl, rfl⟩
  go_wp2_with fail
  refine H3.out.mono ?_
  rintro e w1 ⟨rfl, rfl⟩
  go_wp2
  go_ret
  exact ⟨rfl, HG.out⟩
set_option maxRecDepth 100000 in
theorem bypath_any (x y : PIt) (w : World) (he : ∃ m, w.cell? ⟨0, 0, none⟩ = some (.int .i64 m)) :
    Calls Tryd.prog 90 #[.agg (pitC x).toArray, .agg (pitC y).toArray] w fun e w' => e = .returned (.int .i64 (cfP x y)) ∧ ∃ os, w' = grow w os := by
  obtain ⟨⟨a, k1, m1, t1, d1⟩, hx⟩ := x
  obtain ⟨⟨b, k2, m2, t2, d2⟩, hy⟩ := y
  simp only at hx hy
  unfold cfP pitC itmC
  simp only
  have hg : ∃ os, (w.alloc (.cells #[.string a, .int .i64 k1, .int .i64 m1, .int .i64 t1, .string d1] 59)).alloc (.cells #[.string b, .int .i64 k2, .int .i64 m2, .int .i64 t2, .string d2] 59) = grow w os := ⟨_, by rw [alloc_eq_grow, alloc_eq_grow, grow_grow]⟩
  have HG := Lib.hid hg
  have hw1 : Below w.heap.size w ((w.alloc (.cells #[.string a, .int .i64 k1, .int .i64 m1, .int .i64 t1, .string d1] 59)).alloc (.cells #[.string b, .int .i64 k2, .int .i64 m2, .int .i64 t2, .string d2] 59)) := ((Below.refl _ w).alloc (Nat.le_refl _) _).alloc (by simp) _
  obtain ⟨m, hm⟩ := he
  have hm1 := (hw1.cell (p := ⟨0, 0, none⟩) (cellLt hm)).trans hm
  have HC := Lib.hid (pcompareX a b _ ⟨m, hm1⟩ hx hy)
  clear hg hw1 hm hm1
  go_enter Tryd.func90, Tryd.ntmps90
  go_wp2_with fail
  refine HC.out.mono ?_
  rintro e w1 ⟨rfl, os, rfl⟩
  go_wp2
  go_ret
  obtain ⟨os1, e1⟩ := HG.out
  exact ⟨rfl, os1 ++ os, by rw [e1, grow_grow]⟩
/-- what a sort asks of its order, of items -/
theorem bypath_lays (blk off size : Nat) (w : World) (he : ∃ m, w.cell? ⟨0, 0, none⟩ = some (.int .i64 m)) (h0 : blk ≠ 0) : CmpLays Tryd.prog 90 #[] pitC 5 cfP blk off size w := fun m os dk _ x y => by
  obtain ⟨q, hq⟩ := he
  have hlt : 0 < w.heap.size := cellLt hq
  have hc : (sortWorldK pitC 5 w blk off m dk os).cell? ⟨0, 0, none⟩ = some (.int .i64 q) := by
    unfold sortWorldK
    rw [cell?_grow _ _ _ (by rw [size_putRowK]; exact hlt), cell?_putRowK_other _ _ _ _ _ _ _ (fun e => h0 e.symm)]
    exact hq
  refine (bypath_any x y _ ⟨q, hc⟩).mono fun e w' ⟨h1, os', h2⟩ => ⟨h1, 0, os', h2⟩
theorem swoP : SWO (ltOf cfP) where
  irrefl x := by
    unfold ltOf cfP
    rw [(cmpL_zero _ _).2 rfl]
    rfl
  trans x y z h1 h2 := by
    unfold ltOf cfP at *
    simp only [decide_eq_true_eq] at *
    have r1 := cmpL_range (partsP x.it.path) (partsP y.it.path)
    have r2 := cmpL_range (partsP y.it.path) (partsP z.it.path)
    have := cmpL_trans _ _ _ (show cmpL (partsP x.it.path) (partsP y.it.path) = -1 by omega) (show cmpL (partsP y.it.path) (partsP z.it.path) = -1 by omega)
    omega
  ntrans x y z h1 h2 := by
    unfold ltOf cfP at *
    simp only [decide_eq_false_iff_not] at *
    have t1 := cmpL_turn (partsP x.it.path) (partsP y.it.path)
    have t2 := cmpL_turn (partsP y.it.path) (partsP z.it.path)
    have t3 := cmpL_turn (partsP x.it.path) (partsP z.it.path)
    have := cmpL_min (partsP z.it.path) (partsP y.it.path) (partsP x.it.path) (by omega) (by omega)
    omega
end Go.Proofs.YtaoejgnfoecpfaaDoor
namespace Go.Proofs.YtaoejgnfoecpfaaDoor
set_option linter.unusedVariables false
set_option linter.unusedSimpArgs false
set_option linter.unusedSectionVars false
open Go.RowKit Go.Shelf
attribute [local go_sem] Oper.semAt_some

/-- items at an address, if there are any -/
def ItmA (w : World) (A : Option Addr) (l : List Itm) : Prop := 0 < l.length → ∃ g o, A = some ⟨g, o, none⟩ ∧ g < w.heap.size ∧ ∀ (i : Nat) (x : Itm), l[i]? = some x → ∀ (j : Nat) (u : Value), (itmC x)[j]? = some u → w.cell? ⟨g, o + i * 5 + j, none⟩ = some u
theorem ItmA.below {w w' : World} {A : Option Addr} {l : List Itm} (h : ItmA w A l) (hb : Below w.heap.size w w') : ItmA w' A l := fun hl => by
  obtain ⟨g, o, h1, h2, h3⟩ := h hl
  exact ⟨g, o, h1, Nat.lt_of_lt_of_le h2 hb.size, fun i x hx j u hj => (hb.cell (p := ⟨g, o + i * 5 + j, none⟩) h2).trans (h3 i x hx j u hj)⟩
set_option maxRecDepth 100000 in
theorem values_any (A : Option Addr) (n c : Nat) (w : World) :
    Calls Tryd.prog 108 #[.slice A n c] w fun e w' => e = .returned (.func (.func 122) #[] #[.pointer (some ⟨w.heap.size, 0, none⟩)]) ∧ w' = w.alloc (.cells #[.slice A n c] 49) := by
  go_enter Tryd.func108, Tryd.ntmps108
  go_wp2
  go_ret
  exact ⟨rfl, rfl⟩
set_option maxRecDepth 100000 in
set_option maxHeartbeats 3200000 in
theorem vals_in (n : Nat) (hn : 1 ≤ n) (l b : Nat) (A : Option Addr) (c : Nat) (xs : List Itm) (hlen : xs.length ≤ 9223372036854775807) (J : Nat → World → Prop)
    (hJ : ∀ i W, J i W → W.cell? ⟨b, 0, none⟩ = some (.slice A xs.length c) ∧ ItmA W A xs)
    (hB : ∀ i W W', J i W → Below W.heap.size W W' → J i W')
    (hY : ∀ i W x, xs[i]? = some x → J i W → YieldAt Fence.wide (n - 1) Tryd.prog l #[.agg #[.string x.path, .int .i64 x.kind, .int .i64 x.mode, .int .i64 x.time, .string x.data]] W fun e W' => e = .returned (.bool true) ∧ J (i + 1) W')
    (W : World) (h0 : J 0 W) :
    CallsIn Fence.wide n Tryd.prog 122 #[.func (.yield l) #[] #[], .pointer (some ⟨b, 0, none⟩)] W fun e W' => (∃ v, e = .returned v) ∧ J xs.length W' := by
  refine callsIn_of_wp Tryd.func122 rfl trivial ?_ rfl
  simp only [Tryd.ntmps122, List.size_toArray, List.length_cons, List.length_nil, Nat.reduceAdd, Nat.reduceSub, Array.replicate_succ, Array.replicate_zero, List.push_toArray, List.append_toArray, List.nil_append, List.cons_append]
  have hc := (hJ 0 W h0).1
  have HJ := Lib.hid hJ
  have HB := Lib.hid hB
  have HY := Lib.hid hY
  have H0 := Lib.hid h0
  clear hJ hB hY h0
  gi_wp2
  gi_loopw [7] (fun vi wr => ∃ i : Nat, vi = .int .i64 i ∧ i ≤ xs.length ∧ Hid (J i wr)) (fun vi _ => xs.length - (intOf vi).toNat)
  case atStart => exact ⟨0, rfl, Nat.zero_le _, H0⟩
  case round =>
    obtain ⟨i, rfl, hi, hj⟩ := hrel
    by_cases hlt : i < xs.length
    · have hz : (i : Int) < (xs.length : Int) := by omega
      obtain ⟨x, hx⟩ : ∃ x, xs[i]? = some x := ⟨_, List.getElem?_eq_getElem hlt⟩
      obtain ⟨g, o, rfl, hg, hcc⟩ := (HJ.out i wr hj.out).2 (by omega)
      have hcx := hcc i x hx
      have HX := Lib.hid hx
      clear hcc hx
      obtain ⟨pa, ki, mo, ti, da⟩ := x
      have q0 : wr.cell? ⟨g, o + i * 5, none⟩ = some (.string pa) := hcx 0 _ rfl
      have q1 : wr.cell? ⟨g, o + i * 5 + 1, none⟩ = some (.int .i64 ki) := hcx 1 _ rfl
      have q2 : wr.cell? ⟨g, o + i * 5 + 2, none⟩ = some (.int .i64 mo) := hcx 2 _ rfl
      have q3 : wr.cell? ⟨g, o + i * 5 + 3, none⟩ = some (.int .i64 ti) := hcx 3 _ rfl
      have q4 : wr.cell? ⟨g, o + i * 5 + 4, none⟩ = some (.string da) := hcx 4 _ rfl
      clear hcx
      obtain ⟨fn, tm, asn, bd, hy, hR⟩ := HY.out i (wr.alloc (.cells #[.string pa, .int .i64 ki, .int .i64 mo, .int .i64 ti, .string da] 59)) ⟨pa, ki, mo, ti, da⟩ HX.out (HB.out i wr _ hj.out ((Below.refl _ wr).alloc (Nat.le_refl _) _))
      have HC := Lib.hid hR
      clear hR
      gi_wp2
      refine HC.out.mono ?_
      rintro e W3 ⟨rfl, hJ3⟩
      have HJ3 := Lib.hid hJ3
      clear hJ3
      gi_wp2
      go_roundw
      case rel => exact ⟨i + 1, by go_num, by omega, HJ3⟩
      case measure => simp [intOf]; omega
    · have hz : ¬ (i : Int) < (xs.length : Int) := by omega
      obtain rfl : i = xs.length := by omega
      gi_wp2
      go_end0
      exact ⟨⟨_, rfl⟩, hj.out⟩
end Go.Proofs.YtaoejgnfoecpfaaDoor
namespace Go.Proofs.YtaoejgnfoecpfaaDoor
set_option linter.unusedVariables false
set_option linter.unusedSimpArgs false
set_option linter.unusedSectionVars false
open Go.RowKit Go.Shelf
attribute [local go_sem] Oper.semAt_some

def itmsC (l : List Itm) : List Value := (l.map itmC).flatten
theorem itmsC_len (l : List Itm) : (itmsC l).length = l.length * 5 := by
  induction l with
  | nil => rfl
  | cons x r ih =>
    have e : itmsC (x :: r) = itmC x ++ itmsC r := rfl
    rw [e, List.length_append, ih, List.length_cons]
    have : (itmC x).length = 5 := rfl
    omega
theorem itmsC_snoc {l : List Itm} {i : Nat} {x : Itm} (h : l[i]? = some x) : itmsC (l.take (i + 1)) = itmsC (l.take i) ++ itmC x := by
  obtain ⟨hi, rfl⟩ := List.getElem?_eq_some_iff.1 h
  unfold itmsC
  rw [List.take_succ_eq_append_getElem hi, List.map_append, List.flatten_append]
  simp
theorem own_formS {w : World} {B n k : Nat} {t : TypeId} {v : Value} {xs : List Value} (h : w.ownsRow B t k v n xs) : ∃ A c, v = .slice A n c ∧ n ≤ c := by
  rcases h.2 with ⟨hv, hn⟩ | ⟨g, cap, cur, hv, _, _, hc, _⟩
  · exact ⟨none, 0, by rw [hv, hn], by omega⟩
  · exact ⟨some ⟨g, 0, none⟩, cap, hv, hc⟩
theorem own_atS {w w' : World} {B : Nat} {e : TypeId} {z n : Nat} {v : Value} {xs : List Value} (h : w.ownsRow B e z v n xs) (he : ∀ i, v.ownBlock = some i → w'.heap[i]? = w.heap[i]?) : w'.ownsRow B e z v n xs := by
  obtain ⟨q1, q2⟩ := h
  refine ⟨q1, q2.imp id ?_⟩
  rintro ⟨g, cap, cur, r1, r2, r3, r4⟩
  exact ⟨g, cap, cur, r1, r2, (he g (by rw [r1]; rfl)).trans r3, r4⟩
/-- an owned row of another type's elements is another block -/
theorem own_other {W : World} {base : Nat} {e : TypeId} {size : Nat} {v : Value} {k : Nat} {xs : List Value} (h : W.ownsRow base e size v k xs) {j : Nat} {o : Obj} (hj : W.heap[j]? = some o) (hno : ∀ cur, o ≠ .cells cur e (0, 0)) : v.ownBlock ≠ some j := by
  rcases h.2 with ⟨rfl, _⟩ | ⟨g, cap, cur, rfl, _, hgb, _⟩
  · simp [Value.ownBlock]
  · intro e'
    have : g = j := by simpa [Value.ownBlock] using e'
    subst this
    rw [hgb] at hj
    exact hno cur (Option.some.inj hj).symm
/-- between two rounds -/
structure ApM (w : World) (xs : List Itm) (rec : Loop) (i : Nat) (W : World) : Prop where
  le : i ≤ xs.length
  box : ∃ B d, W.heap[w.heap.size]? = some (.cells #[.slice B i d] 49 (0, 0)) ∧ W.ownsRow w.heap.size 59 5 (.slice B i d) i (itmsC (xs.take i))
  loop : W.heap[w.heap.size + 2]? = some (.loop rec)
  mark : W.heap[w.heap.size + 1]? = some (.deferred (some []))
  low : Below w.heap.size w W
theorem ApM.grow {w : World} {xs : List Itm} {rec : Loop} {i : Nat} {W W' : World} (h : ApM w xs rec i W) (hb : Below W.heap.size W W') : ApM w xs rec i W' := by
  have hl : w.heap.size + 2 < W.heap.size := (Array.getElem?_eq_some_iff.1 h.loop).1
  obtain ⟨B, d, h1, h2⟩ := h.box
  exact ⟨h.le, ⟨B, d, (hb.block _ (by omega)).trans h1, own_atS h2 fun k hk => hb.block k (h2.lt k hk).2⟩, (hb.block _ hl).trans h.loop, (hb.block _ (by omega)).trans h.mark, h.low.trans (hb.mono h.low.size)⟩
theorem tne : 49 ≠ 59 := by decide
theorem infoItem : (Tryd.prog.info? 59).map (fun i => (i.zero, i.size, i.bytes)) = some (some (.agg #[.string ⟨#[]⟩, .int .i64 0, .int .i64 0, .int .i64 0, .string ⟨#[]⟩]), 5, 56) := by kernel_rfl
set_option maxRecDepth 100000 in
set_option maxHeartbeats 3200000 in
theorem appseq_any (b : Nat) (A : Option Addr) (c : Nat) (xs : List Itm) (w : World) (hc : w.cell? ⟨b, 0, none⟩ = some (.slice A xs.length c)) (hi : ItmA w A xs) (hn : xs.length * 56 ≤ 140737488355328) :
    CallsIn Fence.wide 7 Tryd.prog 133 #[.slice none 0 0, .func (.func 122) #[] #[.pointer (some ⟨b, 0, none⟩)]] w fun e w' => ∃ A' c', e = .returned (.slice A' xs.length c') ∧ w'.ownsRow w.heap.size 59 5 (.slice A' xs.length c') xs.length (itmsC xs) ∧ Below w.heap.size w w' := by
  refine callsIn_of_wp_marks Tryd.func133 rfl trivial ?_ rfl
  simp only [Tryd.ntmps133, List.size_toArray, List.length_cons, List.length_nil, Nat.reduceAdd, Nat.reduceSub, Array.replicate_succ, Array.replicate_zero, List.push_toArray, List.append_toArray, List.nil_append, List.cons_append]
  obtain ⟨W0, hW0⟩ : ∃ W0, w.alloc (.cells #[.slice none 0 0] 49) = W0 := ⟨_, rfl⟩
  have hz0 : W0.heap.size = w.heap.size + 1 := by rw [← hW0]; simp
  have g0 : W0.heap[w.heap.size]? = some (.cells #[.slice none 0 0] 49 (0, 0)) := by rw [← hW0]; exact World.alloc_heap_new w _
  have hb0 : Below w.heap.size w W0 := by rw [← hW0]; exact (Below.refl _ w).alloc (Nat.le_refl _) _
  gi_wp2
  clear hW0
  refine range_open (gf := 122) (lb := #[.pointer (some ⟨b, 0, none⟩)]) rfl (enters_of Tryd.func122 (by kernel_rfl) rfl) ?_
  intro fn
  unfold begun
  rw [hz0]
  generalize hrec : recOf _ _ _ _ _ _ _ _ = rec
  obtain ⟨W1, hW1⟩ : ∃ W1, (W0.alloc (.deferred (some []))).alloc (.loop rec) = W1 := ⟨_, rfl⟩
  rw [hW1]
  have hk1 : ∀ k, k < w.heap.size + 1 → W1.heap[k]? = W0.heap[k]? := fun k hk => by
    rw [← hW1, Below.heap_alloc _ _ _ (by simp <;> omega), Below.heap_alloc _ _ _ (by omega)]
  have hk4 : W1.heap[w.heap.size + 1]? = some (.deferred (some [])) := by
    rw [← hW1, Below.heap_alloc _ _ _ (by simp <;> omega), ← hz0]; exact World.alloc_heap_new W0 _
  have hk5 : W1.heap[w.heap.size + 2]? = some (.loop rec) := by
    rw [← hW1]
    have := World.alloc_heap_new (W0.alloc (.deferred (some []))) (.loop rec)
    rwa [World.size_alloc, hz0] at this
  have hb1 : Below w.heap.size w W1 := by rw [← hW1]; exact (hb0.alloc (by omega) _).alloc (by simp <;> omega) _
  clear hW1
  have hM : ApM w xs rec 0 W1 := ⟨Nat.zero_le _, ⟨none, 0, (hk1 _ (by omega)).trans g0, ⟨rfl, .inl ⟨rfl, rfl⟩⟩⟩, hk5, hk4, hb1⟩
  have hblt : b < w.heap.size := cellLt hc
  refine (vals_in (7 - 1) (by decide) (w.heap.size + 2) b A c xs (by omega) (ApM w xs rec) (fun i W h => ⟨(h.low.cell (p := ⟨b, 0, none⟩) hblt).trans hc, hi.below h.low⟩) (fun i W W' h hb => h.grow hb) ?_ W1 hM).mono ?_
  · -- ONE ROUND
    intro i W0' x hx h0'
    have hlt0 : w.heap.size + 2 < W0'.heap.size := (Array.getElem?_eq_some_iff.1 h0'.loop).1
    have hil : i < xs.length := (List.getElem?_eq_some_iff.1 hx).1
    have hsn := itmsC_snoc hx
    have hy := run_yield (P := Tryd.prog) (args := #[.agg #[.string x.path, .int .i64 x.kind, .int .i64 x.mode, .int .i64 x.time, .string x.data]]) h0'.loop (by rw [← hrec]; rfl)
    rw [← hrec] at hy
    refine ⟨fn, _, _, _, hy, roundIn_of_wpIn trivial ?_⟩
    dsimp only [recOf]
    obtain ⟨pa, ki, mo, ti, da⟩ := x
    have hnewx := Blk.new W0' 59 #[.string pa, .int .i64 ki, .int .i64 mo, .int .i64 ti, .string da]
    have h := h0'.grow ((Below.refl W0'.heap.size W0').alloc (Nat.le_refl _) (.cells #[.string pa, .int .i64 ki, .int .i64 mo, .int .i64 ti, .string da] 59))
    have hzW : (W0'.alloc (.cells #[.string pa, .int .i64 ki, .int .i64 mo, .int .i64 ti, .string da] 59)).heap.size = W0'.heap.size + 1 := by simp
    obtain ⟨W, hW⟩ : ∃ W, W0'.alloc (.cells #[.string pa, .int .i64 ki, .int .i64 mo, .int .i64 ti, .string da] 59) = W := ⟨_, rfl⟩
    rw [hW] at h hzW hnewx
    obtain ⟨B, d, hbox, hown⟩ := h.box
    have hbr := run_beginRound (P := Tryd.prog) h.loop (by rw [← hrec]; rfl)
    have hl1 : (W.putObj (w.heap.size + 2) (.loop { rec with state := .busy })).heap[w.heap.size + 2]? = some (.loop { rec with state := .busy }) := World.putObj_heap_same (by omega)
    have hb2 : Below w.heap.size w (W.putObj (w.heap.size + 2) (.loop { rec with state := .busy })) := putObj_low h.low (by omega) _
    have hko := fun k (hk : k ≠ w.heap.size + 2) => (World.putObj_heap_other (w := W) (r := w.heap.size + 2) (o := .loop { rec with state := .busy }) (k := k) (fun e => hk e))
    have hz1 : (W.putObj (w.heap.size + 2) (.loop { rec with state := .busy })).heap.size = W.heap.size := World.putObj_size
    have hnl := own_other hown h.loop (fun cur e => by cases e)
    have hnm := own_other hown h.mark (fun cur e => by cases e)
    have hnb := own_other hown hbox (fun cur e => by injection e with e1 e2; exact absurd e2 tne)
    generalize W.putObj (w.heap.size + 2) (.loop { rec with state := .busy }) = V at *
    have hre : ({ rec with state := .ready, pending := none } : Loop) = rec := by rw [← hrec]; rfl
    have hboxV : V.heap[w.heap.size]? = some (.cells #[.slice B i d] 49 (0, 0)) := (hko _ (by omega)).trans hbox
    have hmarkV := (hko (w.heap.size + 1) (by omega)).trans h.mark
    have hownV := own_atS hown (w' := V) fun k hk => hko k fun e => hnl (e ▸ hk)
    have hxV : Blk V W0'.heap.size 59 #[.string pa, .int .i64 ki, .int .i64 mo, .int .i64 ti, .string da] := (hko _ (by omega)).trans hnewx
    have q0 : V.cell? ⟨W0'.heap.size, 0, none⟩ = some (.string pa) := hxV.cell 0
    have q1 : V.cell? ⟨W0'.heap.size, 1, none⟩ = some (.int .i64 ki) := hxV.cell 1
    have q2 : V.cell? ⟨W0'.heap.size, 2, none⟩ = some (.int .i64 mo) := hxV.cell 2
    have q3 : V.cell? ⟨W0'.heap.size, 3, none⟩ = some (.int .i64 ti) := hxV.cell 3
    have q4 : V.cell? ⟨W0'.heap.size, 4, none⟩ = some (.string da) := hxV.cell 4
    have hc2 : V.cell? ⟨w.heap.size, 0, none⟩ = some (.slice B i d) := by simp [World.cell?, hboxV]
    have hf2 : V.frozen? ⟨w.heap.size, 0, none⟩ = false := by simp [World.frozen?, hboxV]
    have hlV : w.heap.size + 3 < V.heap.size := by omega
    have hbC := (Below.refl V.heap.size V).alloc (Nat.le_refl _) (.cells #[.string pa, .int .i64 ki, .int .i64 mo, .int .i64 ti, .string da] 59)
    have hownC := own_atS hownV (w' := V.alloc (.cells #[.string pa, .int .i64 ki, .int .i64 mo, .int .i64 ti, .string da] 59)) fun k hk => hbC.block k (hownV.lt k hk).2
    have hnew := Blk.new V 59 #[.string pa, .int .i64 ki, .int .i64 mo, .int .i64 ti, .string da]
    have hcn : ∀ j u, (itmC ⟨pa, ki, mo, ti, da⟩)[j]? = some u → (V.alloc (.cells #[.string pa, .int .i64 ki, .int .i64 mo, .int .i64 ti, .string da] 59)).cell? ((⟨V.heap.size, 0, none⟩ : Addr).add j) = some u := fun j u hj => by
      rw [addr_add, Nat.zero_add, hnew.cell]
      simpa [itmC] using hj
    obtain ⟨i0, hinf, hiz, his, hib⟩ := info_parts infoItem
    have HBR := Lib.hid hbr
    have HOC := Lib.hid hownC
    have HCN := Lib.hid hcn
    have HB2 := Lib.hid hb2
    have HBC := Lib.hid hbC
    have HL1 := Lib.hid hl1
    have HRE := Lib.hid hre
    have HMV := Lib.hid hmarkV
    have HBV := Lib.hid hboxV
    have HSN := Lib.hid hsn
    have HNN := Lib.hid (And.intro hnl (And.intro hnm hnb))
    have HINF := Lib.hid (And.intro hinf (And.intro hiz (And.intro his hib)))
    clear h h0' hbr hownC hcn hb2 hbC hl1 hre hmarkV hboxV hsn hnl hnm hnb hinf hiz his hib hown hownV hnew hko hbox hy hx hnewx hxV hz1 hzW
    gi_wp2
    refine ⟨_, HBR.out, ?_⟩
    gi_wp2_with (first
      | (gi_at_builtin; refine wpListIn_append_own _ rfl _ _ 49 rfl w.heap.size 59 i0 _ 5 56 Tryd.underlying49 HINF.out.1 HINF.out.2.1 HINF.out.2.2.1 HINF.out.2.2.2 rfl (by decide) _ _ _ rfl HOC.out ⟨V.heap.size, 0, none⟩ 1 1 (itmC ⟨pa, ki, mo, ti, da⟩) rfl rfl HCN.out (fun u hu => by simp [itmC] at hu; rcases hu with rfl | rfl | rfl | rfl | rfl <;> rfl) (by unfold maxLen; omega) (by omega) (by have := HB2.out.size; simp; omega) ?_; intro v' w3 hown' hg3 _
         obtain ⟨A5, c5, rfl, _⟩ := own_formS hown'
         have hbx3 : w3.heap[w.heap.size]? = some (.cells #[.slice B i d] 49 (0, 0)) := (hg3.block _ (by simp; omega) (fun e => HNN.out.2.2 e.symm)).trans ((HBC.out.block _ (by omega)).trans HBV.out)
         have hl3 : w3.heap[w.heap.size + 2]? = some (.loop { rec with state := .busy }) := (hg3.block _ (by simp; omega) (fun e => HNN.out.1 e.symm)).trans ((HBC.out.block _ (by omega)).trans HL1.out)
         have hm3 : w3.heap[w.heap.size + 1]? = some (.deferred (some [])) := (hg3.block _ (by simp; omega) (fun e => HNN.out.2.1 e.symm)).trans ((HBC.out.block _ (by omega)).trans HMV.out)
         have hlow3 : Below w.heap.size w w3 := (HB2.out.trans (HBC.out.mono HB2.out.size)).grown hg3 (by have := HB2.out.size; simp; omega) (fun k hk => (HOC.out.lt k hk).1)
         have hc3 : w3.cell? ⟨w.heap.size, 0, none⟩ = some (.slice B i d) := by simp [World.cell?, hbx3]
         have hf3 : w3.frozen? ⟨w.heap.size, 0, none⟩ = false := by simp [World.frozen?, hbx3]
         have HO3 := Lib.hid hown'
         have HF3 := Lib.hid (And.intro hbx3 (And.intro hl3 (And.intro hm3 hlow3)))
         clear hown' hg3 hbx3 hl3 hm3 hlow3))
    obtain ⟨hbx3, hl3, hm3, hlow3⟩ := HF3.out
    have hks : ∀ k, k ≠ w.heap.size → (w3.setCell ⟨w.heap.size, 0, none⟩ (.slice A5 (i + 1) c5)).heap[k]? = w3.heap[k]? := fun k hk => Below.heap_setCell _ _ _ _ hk
    have hl4 := (hks (w.heap.size + 2) (by omega)).trans hl3
    have hlt4 := (Array.getElem?_eq_some_iff.1 hl4).1
    have hbx4 := Blk.set_ (w := w3) (g := w.heap.size) (t := 49) (cs := #[.slice B i d]) hbx3 0 (.slice A5 (i + 1) c5)
    have ho3 := HO3.out
    have n1 := own_other ho3 hbx3 (fun cur e => by injection e with e1 e2; exact absurd e2 tne)
    have n2 := own_other ho3 hl3 (fun cur e => by cases e)
    refine ⟨_, _, run_endRound (P := Tryd.prog) none hl4, rfl, ?_⟩
    refine ⟨hil, ⟨A5, c5, ?_, ?_⟩, ?_, ?_, putObj_low (hlow3.setCell (p := ⟨w.heap.size, 0, none⟩) (Nat.le_refl _) _) (by omega) _⟩
    · rw [World.putObj_heap_other (by omega)]
      exact hbx4
    · rw [HSN.out]
      refine own_atS ho3 fun k hk => ?_
      rw [World.putObj_heap_other (by rintro rfl; exact n2 hk), hks k (by rintro rfl; exact n1 hk)]
    · rw [World.putObj_heap_same hlt4]
      exact congrArg (fun r => some (Obj.loop r)) HRE.out
    · rw [World.putObj_heap_other (by omega), hks _ (by omega)]
      exact hm3
  · rintro e W2 ⟨⟨v, rfl⟩, h⟩
    have hend := run_endLoop (P := Tryd.prog) h.loop (by rw [← hrec]; simp [recOf])
    obtain ⟨B, d, hbox, hown⟩ := h.box
    rw [List.take_length] at hown
    have hko := fun k (hk : k ≠ w.heap.size + 2) => (World.putObj_heap_other (w := W2) (r := w.heap.size + 2) (o := .loop { rec with state := .exhausted }) (k := k) (fun e => hk e))
    have hnl := own_other hown h.loop (fun cur e => by cases e)
    have hnm := own_other hown h.mark (fun cur e => by cases e)
    have hb4 : Below w.heap.size w (W2.putObj (w.heap.size + 2) (.loop { rec with state := .exhausted })) := putObj_low h.low (by omega) _
    have hbx4 := (hko w.heap.size (by omega)).trans hbox
    have hm4 := (hko (w.heap.size + 1) (by omega)).trans h.mark
    have hown4 := own_atS hown (w' := W2.putObj (w.heap.size + 2) (.loop { rec with state := .exhausted })) fun k hk => hko k fun e => hnl (e ▸ hk)
    have hp : rec.pending = none := by rw [← hrec]; rfl
    generalize W2.putObj (w.heap.size + 2) (.loop { rec with state := .exhausted }) = W4 at *
    rw [hp] at hend
    refine ⟨none, _, hend, ?_⟩
    have hc4 : W4.cell? ⟨w.heap.size, 0, none⟩ = some (.slice B xs.length d) := by simp [World.cell?, hbx4]
    have HM4 := Lib.hid hm4
    have HB4 := Lib.hid hb4
    have HO4 := Lib.hid hown4
    have HNM := Lib.hid hnm
    clear hend h hrec hm4 hb4 hown4 hown hbox hko hbx4 hnl hnm
    gi_wp2
    refine ⟨by simp, .inl ⟨_, _, rfl, run_takeDeferred HM4.out, ?_⟩⟩
    refine ⟨_, results_tmp rfl _ _ _, B, d, rfl, own_atS HO4.out fun k hk => World.putObj_heap_other (by rintro rfl; exact HNM.out hk), putObj_low HB4.out (by omega) _⟩
end Go.Proofs.YtaoejgnfoecpfaaDoor
namespace Go.Proofs.YtaoejgnfoecpfaaDoor
set_option linter.unusedVariables false
set_option linter.unusedSimpArgs false
set_option linter.unusedSectionVars false
open Go Go.RowKit Go.Sort Go.Shelf

def insR : Go.Shelf.Ren := ⟨fun | 20 => 151 | n => n, fun | 0 => 0 | 3 => 3 | 4 => 4 | 22 => 49 | 24 => 59 | 25 => 140 | n => n, fun n => n⟩
theorem insL : Go.Proofs.SlLaysF0.n20 Tryd.prog insR where
  mixed := by kernel_rfl
  f20 := ⟨Tryd.f151.name, by kernel_rfl, Tryd.func151.trans (congrArg some (by kernel_rfl))⟩
  t0 := Tryd.underlying0
  a0 := Tryd.isAgg0
  z0 := Tryd.sizeOf0
  v0 := Tryd.zeroValue0
  t3 := Tryd.underlying3
  a3 := Tryd.isAgg3
  z3 := Tryd.sizeOf3
  v3 := Tryd.zeroValue3
  t4 := Tryd.underlying4
  a4 := Tryd.isAgg4
  z4 := Tryd.sizeOf4
  v4 := Tryd.zeroValue4
  t22 := Tryd.underlying49
  a22 := Tryd.isAgg49
  z22 := Tryd.sizeOf49
  v22 := Tryd.zeroValue49
  t25 := Tryd.underlying140
  a25 := Tryd.isAgg140
  z25 := Tryd.sizeOf140
  v25 := Tryd.zeroValue140
theorem cbypath : ∀ args w, (callFunc 90 args).run Tryd.prog w = .ok (.enter 90 args) w := fun _ _ => by kernel_rfl
theorem ins_any (blk off cap a b : Nat) (d : Array PIt) (w : World) (hcmp : CmpLays Tryd.prog 90 #[] pitC 5 cfP blk off d.size w) (hH : HoldsK pitC 5 w blk off d) (hblk : blk < w.heap.size) (hab : a ≤ b) (hb : b ≤ d.size) (hsz : d.size < 4611686018427387904) :
    Calls Tryd.prog 151 #[.slice (some ⟨blk, off, none⟩) d.size cap, .int .i64 a, .int .i64 b, .func (.func 90) #[] #[]] w (SymPost pitC 5 cfP w blk off a b d) := by
  have h := Go.Proofs.AnyQ.insertionSortCmpFunc insL 5 Tryd.isAgg59 Tryd.sizeOf59 pitC pitC_len pitC_one cfP 90 #[] blk off cap a b d w cbypath hcmp hH hblk hab hb hsz
  obtain ⟨h1, h2⟩ := insertionSort_holds (lt := ltOf cfP) swoP d a b hab hb
  exact h.mono fun e w' ⟨q1, q, os, q2⟩ => ⟨q1, _, ⟨q, os, q2⟩, h1, h2⟩
/-- the stable sort, of items -/
theorem stable_any (blk off cap : Nat) (d : Array PIt) (w : World) (he : ∃ m, w.cell? ⟨0, 0, none⟩ = some (.int .i64 m)) (h0 : blk ≠ 0) (hH : HoldsK pitC 5 w blk off d) (hblk : blk < w.heap.size) (hsz : d.size ≤ 1152921504606846976) :
    Calls Tryd.prog 134 #[.slice (some ⟨blk, off, none⟩) d.size cap, .int .i64 d.size, .func (.func 90) #[] #[]] w (SymPost pitC 5 cfP w blk off 0 d.size d) := by
  have B : Base Tryd.prog pitC 5 cfP 90 #[] blk off d.size w := ⟨stl, pitC_len, pitC_one, swoP, cbypath, bypath_lays blk off d.size w he h0, hblk, by omega, ⟨d, rfl, hH⟩⟩
  refine stable_open B hH hsz fun a b dk W hW hs hab hb => ?_
  have hB := B.at hW hs
  have hh := B.holds hW hs
  rw [← hs] at hb ⊢
  refine (ins_any blk off cap a b dk W (by rw [hs]; exact hB.hcmp) hh hB.hblk hab hb (by omega)).mono fun e w' ⟨q1, d', q2, q3, q4⟩ => ⟨q1, d', B.on hW q3.1 q2, q3, q4⟩
set_option maxRecDepth 100000 in
theorem ins_none (w : World) (fv : Value) : Calls Tryd.prog 151 #[.slice none 0 0, .int .i64 0, .int .i64 0, fv] w fun e w' => e = .returned (.tuple #[]) ∧ w = w' := by
  go_enter Tryd.func151, Tryd.ntmps151
  go_wp2
  go_loopw [8] (fun v wr => v = .int .i64 1 ∧ w = wr) (fun _ _ => 0)
  case atStart => exact ⟨rfl, rfl⟩
  case round =>
    obtain ⟨rfl, rfl⟩ := hrel
    go_wp2
    go_end0
    exact ⟨rfl, rfl⟩
set_option maxRecDepth 100000 in
theorem stable_none (w : World) (fv : Value) : Calls Tryd.prog 134 #[.slice none 0 0, .int .i64 0, fv] w fun e w' => e = .returned (.tuple #[]) ∧ w = w' := by
  have HI := Lib.hid (ins_none w fv)
  go_enter Tryd.func134, Tryd.ntmps134
  go_wp2
  go_loopw [7, 8] (fun a b wr => a = .int .i64 0 ∧ b = .int .i64 20 ∧ w = wr) (fun _ _ _ => 0)
  case atStart => exact ⟨rfl, rfl, rfl⟩
  case round =>
    obtain ⟨rfl, rfl, rfl⟩ := hrel
    go_wp2_with fail
    refine HI.out.mono ?_
    rintro e w' ⟨rfl, rfl⟩
    go_wp2
    go_loopw [6] (fun a wr => a = .int .i64 20 ∧ w = wr) (fun _ _ => 0)
    case atStart => exact ⟨rfl, rfl⟩
    case round =>
      obtain ⟨rfl, rfl⟩ := hrel
      go_wp2
      go_end0
      exact ⟨rfl, rfl⟩
theorem sortW_below {enc : PIt → List Value} {k B blk off q : Nat} {w : World} {d : Array PIt} {os : Array Obj} (hB : B ≤ blk) (hblk : blk < w.heap.size) : Below B w (sortWorldK enc k w blk off q d os) := by
  refine ⟨rfl, rfl, rfl, size_sortWorldK_c enc k w blk off q d os, fun j hj => ?_⟩
  unfold sortWorldK
  rw [heap_grow_old _ _ (by rw [size_putRowK]; show j < w.heap.size; omega)]
  unfold putRowK putRow mapBlock
  show (w.heap.modify blk _)[j]? = w.heap[j]?
  rw [Array.getElem?_modify, if_neg (by omega)]
end Go.Proofs.YtaoejgnfoecpfaaDoor
namespace Go.Proofs.YtaoejgnfoecpfaaDoor
set_option linter.unusedVariables false
set_option linter.unusedSimpArgs false
set_option linter.unusedSectionVars false
open Go.RowKit

theorem bytesV_set (done : List UInt8) (c d : UInt8) : (bytesV (done ++ [c])).set done.length (.int .u8 d.toNat) = bytesV (done ++ [d]) := by
  simp [bytesV, List.set_append_right]
/-- wpList_app1 where the new block's number is spelled otherwise -/
theorem wpList_app1s {P : Program} {w : World} {ops : Array Oper} {rest : List Oper} {o : Oper} {a : Act} {Q : Exit → Act → World → Prop} (hgd : o.guard = none) (s x : Operand) (t : TypeId)
    (ho : o.op = .call { callee := .builtin .append, args := #[s, x], argTypes := #[t, t] })
    (base : Nat) (e : TypeId) {z : Value} {size bytes : Nat} (ht : P.underlying t = some (.slice e))
    (hinfo : (P.info? e).map (fun i => (i.zero, i.size, i.bytes)) = some (some z, size, bytes)) (hzs : z.cells.size = size) (hsz : 0 < size)
    (v : Value) (n : Nat) (xs : List Value) (hs : a.eval s = v) (hown : w.ownsRow base e size v n xs)
    (cs : Array Value) {bz : Nat} (hbz : bz = w.heap.size) (hx : a.eval x = .slice (some ⟨bz, 0, none⟩) 1 1) (hl : cs.size = size) (h1 : ∀ u ∈ cs.toList, u.oneCell' = true)
    (hbytes : (n + 1) * bytes ≤ 140737488355328) (h63 : n + 1 ≤ 140737488355328) (hbase : base ≤ w.heap.size)
    (h : ∀ g cap w', w'.ownsRow base e size (.slice (some ⟨g, 0, none⟩) (n + 1) cap) (n + 1) (xs ++ cs.toList) → w.grownBy w' v.ownBlock → Below base w w' → (v.ownBlock = some g ∨ g = w.heap.size + 1) → wpList P ops Q rest (a.put o.dst (.slice (some ⟨g, 0, none⟩) (n + 1) cap)) w') :
    wpList P ops Q (o :: rest) a (w.alloc (.cells cs e)) := by
  subst hbz
  exact wpList_app1 hgd s x t ho base e ht hinfo hzs hsz v n xs hs hown cs hx hl h1 hbytes h63 hbase h
theorem bytesV_last (done : List UInt8) (c : UInt8) : (bytesV (done ++ [c]))[done.length]? = some (.int .u8 c.toNat) := by
  simp [bytesV]
set_option maxRecDepth 100000 in
set_option maxHeartbeats 1600000 in
theorem refvar_any (x : Nat) (w : World) (hx : x < 18446744073709551616) :
    Calls Tryd.prog 106 #[.int .u64 x] w fun e w' => e = .returned (.string ⟨(varL x).toArray⟩) ∧ Below w.heap.size w w' := by
  have h0 : x < 128 ^ (10 + 1) := Nat.lt_trans hx (by decide)
  have HX := Lib.hid hx
  have hw0 : IntKind.u8.wrap ((x : Int) % 128) = (x : Int) % 128 := IntWalk.u8_in _ (by omega)
  have hwx : IntKind.u64.wrap ((x : Int) / 128) = (x : Int) / 128 := by rw [IntKind.wrap_u64]; omega
  clear hx
  go_enter Tryd.func106, Tryd.ntmps106
  go_wp2
  go_loopw [0, 3] (fun y v wr => ∃ (z f g cap : Nat) (done : List UInt8), y = .int .u64 ((z / 128 : Nat) : Int) ∧ v = .slice (some ⟨g, 0, none⟩) (done.length + 1 : Nat) cap ∧ z ≤ x ∧ wr.ownsRow w.heap.size 5 1 (.slice (some ⟨g, 0, none⟩) (done.length + 1) cap) (done.length + 1) (bytesV (done ++ [UInt8.ofNat (z % 128)])) ∧ Below w.heap.size w wr ∧ done ++ varF f z = varL x ∧ done.length + f ≤ 10 ∧ z < 128 ^ (f + 1)) (fun y _ _ => (intOf y).toNat)
  case atStart =>
    refine ⟨x, 10, w.heap.size, 1, [], ?_, rfl, Nat.le_refl _, ?_, (Below.refl _ w).alloc (Nat.le_refl _) _, rfl, by simp, h0⟩
    · rw [show ((x / 128 : Nat) : Int) = (x : Int) / 128 by omega]
    · have := World.ownsRow_lit (e := 5) (size := 1) w #[.int .u8 ((x : Int) % 128)] 1 (Nat.le_refl _) (by decide) rfl
      have e : bytesV ([] ++ [UInt8.ofNat (x % 128)]) = [.int .u8 ((x : Int) % 128)] := by
        simp only [List.nil_append, bytesV, List.map_cons, List.map_nil]
        rw [u8_small (by omega), show ((x % 128 : Nat) : Int) = (x : Int) % 128 by omega]
      rw [e]
      exact this
  case round =>
    obtain ⟨z, f, g, cap, done, rfl, rfl, hzx, hown, hb, hn, hlf, hz⟩ := hrel
    have HN := Lib.hid hn
    have HZ := Lib.hid hz
    have HZLE := Lib.hid hzx
    have HZX := Lib.hid (Nat.lt_of_le_of_lt hzx HX.out)
    have HOWN := Lib.hid hown
    have hsz := hb.size
    have hll : done.length ≤ 10 := by omega
    clear hn hz hzx
    by_cases h : z < 128
    · have hz0 : ((z / 128 : Nat) : Int) = 0 := by omega
      rw [hz0]
      have hV : done ++ [UInt8.ofNat (z % 128)] = varL x := by rw [Nat.mod_eq_of_lt h, ← varF_small (f := f) h]; exact HN.out
      have hcv := run_convert_own 46 9 5 Tryd.underlying46 Tryd.underlying5 Tryd.underlying9 hown
      rw [hV] at hcv
      clear hV hz0 h hown
      go_wp2
      go_ret
      exact ⟨rfl, hb⟩
    · obtain ⟨f, rfl⟩ : ∃ g, f = g + 1 := by
        cases f with
        | zero => have := HZ.out; simp at this; omega
        | succ g => exact ⟨g, rfl⟩
      have hq1 : (0 : Int) < ((z / 128 : Nat) : Int) := by omega
      have HV := Lib.hid (show (done ++ [UInt8.ofNat (z % 128 + 128)]) ++ varF f (z / 128) = varL x by rw [← HN.out, varF_great h, List.append_assoc]; rfl)
      have HQ := Lib.hid (show z / 128 ≤ x from Nat.le_trans (Nat.div_le_self _ _) HZLE.out)
      have HP := Lib.hid (show z / 128 < 128 ^ (f + 1) by rw [Nat.div_lt_iff_lt_mul (by decide), Nat.mul_comm, ← pow128]; exact HZ.out)
      have hm : z % 128 < 128 := by omega
      have hwq : IntKind.u64.wrap (((z / 128 : Nat) : Int) / 128) = ((z / 128 : Nat) : Int) / 128 := by rw [IntKind.wrap_u64]; have := HZX.out; omega
      have hm2 : IntKind.u8.wrap (((z / 128 : Nat) : Int) % 128) = ((z / 128 : Nat) : Int) % 128 := IntWalk.u8_in _ (by omega)
      have HLT := Lib.hid (show z / 128 < z by omega)
      clear h
      generalize z / 128 = q at *
      generalize z % 128 = c at *
      have hcell := hown.cellAt done.length (by omega)
      rw [bytesV_last, u8_small (by omega)] at hcell
      have hfz := hown.frozenAt done.length
      have hst := hown.stored done.length (.int .u8 ((c : Int) + 128))
      rw [show Value.int .u8 ((c : Int) + 128) = .int .u8 ((UInt8.ofNat (c + 128)).toNat : Int) by rw [u8_small (by omega)]; rfl, bytesV_set, ← show Value.int .u8 ((c : Int) + 128) = .int .u8 ((UInt8.ofNat (c + 128)).toNat : Int) by rw [u8_small (by omega)]; rfl] at hst
      have HST := Lib.hid hst
      have hown2 := hst.1
      have hb2 : Below w.heap.size w (wr.setCell ⟨g, done.length, none⟩ (.int .u8 ((c : Int) + 128))) := hb.grown hst.2 hsz (fun j hj => by cases hj; exact (hown.lt g rfl).1)
      have hsz2 : w.heap.size ≤ (wr.setCell ⟨g, done.length, none⟩ (.int .u8 ((c : Int) + 128))).heap.size := hb2.size
      have HSZ3 := Lib.hid (show wr.heap.size = (wr.setCell ⟨g, done.length, none⟩ (.int .u8 ((c : Int) + 128))).heap.size by simp)
      clear hst hown
      go_wp2_with (at_builtin; refine wpList_app1s rfl _ _ 46 rfl w.heap.size 5 Tryd.underlying46 infoB rfl (by decide) _ _ _ rfl hown2 _ HSZ3.out rfl rfl (oneCell_int _ _) ?_ ?_ ?_ ?_; omega; omega; exact hsz2; intro g1 cap1 w5 hown' hgr hbw _)
      go_roundw
      case rel =>
        refine ⟨q, f, g1, cap1, done ++ [UInt8.ofNat (c + 128)], ?_, by simp, HQ.out, ?_, hb2.trans hbw, HV.out, by simp; omega, HP.out⟩
        · rw [show ((q / 128 : Nat) : Int) = (q : Int) / 128 by omega]
        · rw [bytesV_app]
          have e : bytesV [UInt8.ofNat (q % 128)] = [.int .u8 ((q : Int) % 128)] := by
            simp only [bytesV, List.map_cons, List.map_nil]
            rw [u8_small (by omega), show ((q % 128 : Nat) : Int) = (q : Int) % 128 by omega]
          rw [e]
          simpa using hown'
      case measure => simp [intOf]; omega
end Go.Proofs.YtaoejgnfoecpfaaDoor
