/- Numbers in groups of seven bits: walked. Small facts on rows and texts (a stand-in for the texts on digits). Blocks known whole; rows of texts. A tree's nodes as interface values: their kind, mode and time; may a link lead there?. A tree's nodes: facts, AsPlain, Target. Numbers in groups of seven bits: the document's, walked. -/
import Derived.Test.YtaoejgnfoecpfaaDoorJk1
import Derived.Test.YtaoejgnfoecpfaaDoorJk3
import Derived.Lib.OthersKept
import Derived.WalkSmall
import Derived.Deep.Draws
import Derived.Laws.Rows
import Derived.Maps.AppendAt
import Derived.Laws.AppendOwnNone
import Derived.Deep.RegionWith
import Derived.Test.YtaoejgnfoecpfaaDoorJk6
import Derived.BigQuiet
namespace Go.Proofs.YtaoejgnfoecpfaaDoor
set_option linter.unusedVariables false
set_option linter.unusedSimpArgs false
set_option linter.unusedSectionVars false
open Go.RowKit

theorem infoB : (Tryd.prog.info? 5).map (fun i => (i.zero, i.size, i.bytes)) = some (some (.int .u8 0), 1, 1) := by kernel_rfl
theorem or128 : ∀ n : Nat, n < 256 → bits BinOp.or IntKind.u8 (n : Int) 128 = ((n % 128 + 128 : Nat) : Int) := by decide +kernel
set_option maxRecDepth 100000 in
set_option maxHeartbeats 800000 in
theorem var_any (x : Nat) (w : World) (hx : x < 18446744073709551616) :
    Calls Tryd.prog 98 #[.int .u64 x] w fun e w' => e = .returned (.string ⟨(varL x).toArray⟩) ∧ Below w.heap.size w w' := by
  have h0 : x < 128 ^ (10 + 1) := Nat.lt_trans hx (by decide)
  have HX := Lib.hid hx
  clear hx
  go_enter Tryd.func98, Tryd.ntmps98
  go_wp2
  go_loopw [0, 3] (fun y v wr => ∃ (z f : Nat) (l : List UInt8) (vv : Value), vv = v ∧ y = .int .u64 (z : Nat) ∧ z ≤ x ∧ wr.ownsRow w.heap.size 5 1 v l.length (bytesV l) ∧ Below w.heap.size w wr ∧ l ++ varF f z = varL x ∧ l.length + f ≤ 10 ∧ z < 128 ^ (f + 1)) (fun y _ _ => (intOf y).toNat)
  case atStart => exact ⟨x, 10, [], _, rfl, rfl, Nat.le_refl _, ⟨rfl, Or.inl ⟨rfl, rfl⟩⟩, Below.refl _ _, rfl, by simp, h0⟩
  case round =>
    obtain ⟨z, f, l, v, rfl, rfl, hzx, hown, hb, hn, hlf, hz⟩ := hrel
    have HN := Lib.hid hn
    have HZ := Lib.hid hz
    have HZLE := Lib.hid hzx
    have HZX := Lib.hid (Nat.lt_of_le_of_lt hzx HX.out)
    have hsz := hb.size
    have hll : l.length ≤ 10 := by omega
    clear hn hz hzx
    by_cases h : z < 128
    · have h1 : ¬ (128 : Int) ≤ (z : Int) := by omega
      have hw8 : IntKind.u8.wrap (z : Int) = (z : Int) := IntWalk.u8_in _ (by omega)
      have hz8 := u8_small (x := z) (by omega)
      have HB1 := Lib.hid (show bytesV (l ++ [UInt8.ofNat z]) = bytesV l ++ [.int .u8 (z : Int)] by rw [bytesV_app]; simp only [bytesV, List.map_cons, List.map_nil]; rw [hz8])
      have HV := Lib.hid (show l ++ [UInt8.ofNat z] = varL x by rw [← varF_small (f := f) h]; exact HN.out)
      clear h hz8
      go_wp2_with (at_builtin; refine wpList_app1 rfl _ _ 46 rfl w.heap.size 5 Tryd.underlying46 infoB rfl (by decide) _ _ _ rfl hown _ rfl rfl (oneCell_int _ _) ?_ ?_ ?_ ?_; omega; omega; omega; intro g1 cap1 w5 hown' hgr hbw _; have hcv := run_convert_own (l := l ++ [UInt8.ofNat z]) 46 9 5 Tryd.underlying46 Tryd.underlying5 Tryd.underlying9 (by rw [HB1.out]; exact hown'))
      go_ret
      exact ⟨ret_str (by rw [HV.out]), hb.trans hbw⟩
    · have h1 : (128 : Int) ≤ (z : Int) := by omega
      obtain ⟨f, rfl⟩ : ∃ g, f = g + 1 := by
        cases f with
        | zero => have := HZ.out; simp at this; omega
        | succ g => exact ⟨g, rfl⟩
      have hw8 : IntKind.u8.wrap (z : Int) = (z : Int) % 256 := by rw [IntKind.wrap_u8]
      have hor : bits BinOp.or IntKind.u8 ((z : Int) % 256) 128 = (z : Int) % 128 + 128 := by
        have := or128 (z % 256) (by omega)
        rw [show ((z % 256 : Nat) : Int) = (z : Int) % 256 by omega] at this
        omega
      have hz8 := u8_small (x := z % 128 + 128) (by omega)
      have HB1 := Lib.hid (show bytesV (l ++ [UInt8.ofNat (z % 128 + 128)]) = bytesV l ++ [.int .u8 ((z : Int) % 128 + 128)] by rw [bytesV_app]; simp only [bytesV, List.map_cons, List.map_nil]; rw [hz8, show ((z % 128 + 128 : Nat) : Int) = (z : Int) % 128 + 128 by omega])
      have HV := Lib.hid (show (l ++ [UInt8.ofNat (z % 128 + 128)]) ++ varF f (z / 128) = varL x by rw [← HN.out, varF_great h, List.append_assoc]; rfl)
      clear h hz8
      go_wp2_with (at_builtin; refine wpList_app1 rfl _ _ 46 rfl w.heap.size 5 Tryd.underlying46 infoB rfl (by decide) _ _ _ rfl hown _ rfl rfl (oneCell_int _ _) ?_ ?_ ?_ ?_; omega; omega; omega; intro g1 cap1 w5 hown' hgr hbw _)
      go_roundw
      case rel =>
        refine ⟨z / 128, f, l ++ [UInt8.ofNat (z % 128 + 128)], _, rfl, ?_, ?_, ?_, hb.trans hbw, HV.out, ?_, ?_⟩
        · rw [show ((z / 128 : Nat) : Int) = (z : Int) / 128 by omega]
        · exact Nat.le_trans (Nat.div_le_self _ _) HZLE.out
        · rw [HB1.out]; simpa using hown'
        · simp; omega
        · rw [Nat.div_lt_iff_lt_mul (by decide), Nat.mul_comm, ← pow128]; exact HZ.out
      case measure => simp [intOf]; omega

theorem ret_2 {k1 k2 : IntKind} {a b c d : Int} (h1 : a = c) (h2 : b = d) : Ending.returned (.tuple #[.int k1 a, .int k2 b]) = .returned (.tuple #[.int k1 c, .int k2 d]) := by rw [h1, h2]
theorem acc_or (y c k : Nat) (hy : y < 128 ^ k) (hc : c < 256) (hk : k ≤ 9) (h9 : k = 9 → c ≤ 1) : bits BinOp.or IntKind.u64 (y : Int) (IntKind.u64.wrap (bits BinOp.and IntKind.u64 (c : Int) 127 * 2 ^ (7 * k))) = ((y + c % 128 * 128 ^ k : Nat) : Int) := by
  have e1 : bits BinOp.and IntKind.u64 (c : Int) 127 = ((c % 128 : Nat) : Int) := by
    have := bits_and_u64_nat c 127 (by omega) (by decide)
    rw [show ((127 : Nat) : Int) = 127 from rfl] at this
    rw [this, show (127 : Nat) = 2 ^ 7 - 1 from rfl, Nat.and_two_pow_sub_one_eq_mod]
  have e2 : (2 : Nat) ^ (7 * k) = 128 ^ k := by rw [Nat.pow_mul]
  have e3 : ((c % 128 : Nat) : Int) * 2 ^ (7 * k) = ((c % 128 * 128 ^ k : Nat) : Int) := by
    rw [← e2]; simp
  have hp : 128 ^ k ≤ 128 ^ 9 := Nat.pow_le_pow_right (by decide) hk
  have hlt : c % 128 * 128 ^ k < 18446744073709551616 := by
    by_cases h : k = 9
    · have := h9 h
      have : c % 128 * 128 ^ k ≤ 1 * 128 ^ 9 := Nat.mul_le_mul (by omega) hp
      exact Nat.lt_of_le_of_lt this (by decide)
    · have h8 : 128 ^ k ≤ 128 ^ 8 := Nat.pow_le_pow_right (by decide) (by omega)
      have : c % 128 * 128 ^ k ≤ 127 * 128 ^ 8 := Nat.mul_le_mul (by omega) h8
      exact Nat.lt_of_le_of_lt this (by decide)
  have hy2 : y < 18446744073709551616 := Nat.lt_trans (Nat.lt_of_lt_of_le hy hp) (by decide)
  rw [e1, e3, IntKind.wrap_u64, Int.emod_eq_of_lt (by omega) (by omega), bits_or_u64_nat _ _ hy2 hlt]
  congr 1
  have := Nat.two_pow_add_eq_or_of_lt (i := 7 * k) (b := y) (by rw [e2]; exact hy) (c % 128)
  rw [e2, Nat.mul_comm] at this
  rw [Nat.or_comm, ← this, Nat.add_comm]
theorem acc_lt (y c k : Nat) (hy : y < 128 ^ k) : y + c % 128 * 128 ^ k < 128 ^ (k + 1) := by
  have : c % 128 * 128 ^ k ≤ 127 * 128 ^ k := Nat.mul_le_mul_right _ (by omega)
  rw [pow128]
  omega

set_option maxRecDepth 100000 in
set_option maxHeartbeats 1600000 in
theorem unvar_any (s : ByteArray) (w : World) (_hs : s.size ≤ 1099511627776) :
    Calls Tryd.prog 99 #[.string s] w fun e w' => e = .returned (.tuple #[.int .u64 (unvarL s.data.toList).1, .int .i64 (unvarL s.data.toList).2]) ∧ w = w' := by
  go_enter Tryd.func99, Tryd.ntmps99
  go_wp2
  go_loop [4, 5] (fun a i => ∃ (k f y : Nat), a = .int .u64 (y : Nat) ∧ i = .int .i64 (k : Nat) ∧ k + f = 10 ∧ k ≤ s.size ∧ y < 128 ^ k ∧ unv f k y (s.data.toList.drop k) = unvarL s.data.toList) (fun _ i => 10 - (intOf i).toNat)
  case atStart => exact ⟨0, 10, 0, rfl, rfl, rfl, Nat.zero_le _, by decide, by rw [List.drop_zero]; rfl⟩
  case round =>
    obtain ⟨k, f, y, rfl, rfl, hkf, hk, hy, hn⟩ := hrel
    have HN := Lib.hid hn
    have HY := Lib.hid hy
    clear hn hy
    by_cases hlt : k < s.size
    · by_cases h10 : k < 10
      · obtain ⟨f, rfl⟩ : ∃ g, f = g + 1 := ⟨f - 1, by omega⟩
        have HDR := Lib.hid (show s.data.toList.drop k = s[k] :: s.data.toList.drop (k + 1) from List.drop_eq_getElem_cons (by simpa using hlt))
        have hc := s[k].toNat_lt
        have HU := Lib.hid (show unv (f + 1) k y (s[k] :: s.data.toList.drop (k + 1)) = if (k = 9 ∧ 1 < s[k].toNat) ∨ (0 < k ∧ s[k].toNat = 0) then (0, 0) else if s[k].toNat < 128 then (y + s[k].toNat * 128 ^ k, k + 1) else unv f (k + 1) (y + s[k].toNat % 128 * 128 ^ k) (s.data.toList.drop (k + 1)) from rfl)
        have hl0 : (0 : Int) ≤ (k : Int) := by omega
        have hl1 : (k : Int) < (s.size : Int) := by omega
        by_cases hA : k = 9 ∧ 1 < s[k].toNat
        · have HF := Lib.hid (show unvarL s.data.toList = (0, 0) by rw [← HN.out, HDR.out, HU.out, if_pos (Or.inl hA)])
          have q1 : ((k : Int) == 9) = true := by simp; omega
          have q2 : (1 : Int) < (s[k].toNat : Int) := by omega
          clear hA
          go_wp2
          go_ret2
          exact ⟨by rw [HF.out]; rfl, rfl⟩
        · by_cases hB : 0 < k ∧ s[k].toNat = 0
          · have HF := Lib.hid (show unvarL s.data.toList = (0, 0) by rw [← HN.out, HDR.out, HU.out, if_pos (Or.inr hB)])
            have q3 : (0 : Int) < (k : Int) := by omega
            have q4 : ((s[k].toNat : Int) == 0) = true := by simp; omega
            have q2 : ¬ (1 : Int) < (s[k].toNat : Int) := by omega
            have q2' : decide ((1 : Int) < (s[k].toNat : Int)) = false := decide_eq_false q2
            clear hA hB
            cases q1 : ((k : Int) == 9)
            all_goals
              go_wp2
              go_ret2
              exact ⟨by rw [HF.out]; rfl, rfl⟩
          · have HACC := Lib.hid (fun (h9 : k ≤ 9) (h1 : k = 9 → s[k].toNat ≤ 1) => acc_or y s[k].toNat k HY.out hc h9 h1)
            by_cases h128 : s[k].toNat < 128
            · have HF := Lib.hid (show unvarL s.data.toList = (y + s[k].toNat * 128 ^ k, k + 1) by rw [← HN.out, HDR.out, HU.out, if_neg (by omega), if_pos h128])
              have HM := Lib.hid (show s[k].toNat % 128 = s[k].toNat from Nat.mod_eq_of_lt h128)
              have q5 : (s[k].toNat : Int) < 128 := by omega
              have HB' := Lib.hid hB
              have HA' := Lib.hid hA
              clear hA hB
              rcases (by omega : k = 0 ∨ (0 < k ∧ k < 9) ∨ k = 9) with g | ⟨g1, g2⟩ | g
              · have HG := Lib.hid g
                have q3 : ¬ (0 : Int) < (k : Int) := by omega
                have q1 : ((k : Int) == 9) = false := by simp; omega
                have q3' : decide ((0 : Int) < (k : Int)) = false := decide_eq_false q3
                clear g
                go_wp2
                go_ret2
                exact ⟨ret_2 (by rw [HF.out]; have := HACC.out (by have := HG.out; omega) (by have := HG.out; omega); rw [HM.out] at this; have h0 := HG.out; subst h0; simpa using this) (by rw [HF.out]; simp), rfl⟩
              · have q1 : ((k : Int) == 9) = false := by simp; omega
                have q3 : (0 : Int) < (k : Int) := by omega
                have q4 : ((s[k].toNat : Int) == 0) = false := by have := HB'.out; simp; omega
                go_wp2
                go_ret2
                exact ⟨ret_2 (by rw [HF.out]; have := HACC.out (by omega) (by omega); rw [HM.out] at this; exact this) (by rw [HF.out]; simp), rfl⟩
              · have HG := Lib.hid g
                have q1 : ((k : Int) == 9) = true := by simp; omega
                have q3 : (0 : Int) < (k : Int) := by omega
                have q2 : decide ((1 : Int) < (s[k].toNat : Int)) = false := decide_eq_false (by have := HA'.out; omega)
                have q4 : ((s[k].toNat : Int) == 0) = false := by have := HB'.out; simp; omega
                clear g
                go_wp2
                go_ret2
                exact ⟨ret_2 (by rw [HF.out]; have := HACC.out (by have := HG.out; omega) (by have := HA'.out; have := HG.out; omega); rw [HM.out] at this; have h0 := HG.out; subst h0; simpa using this) (by rw [HF.out]; simp), rfl⟩
            · have h9 : k < 9 := by omega
              have HF := Lib.hid (show unv f (k + 1) (y + s[k].toNat % 128 * 128 ^ k) (s.data.toList.drop (k + 1)) = unvarL s.data.toList by rw [← HN.out, HDR.out, HU.out, if_neg (by omega), if_neg h128])
              have HL := Lib.hid (acc_lt y s[k].toNat k HY.out)
              have HAC := Lib.hid (HACC.out (by omega) (by omega))
              have q1 : ((k : Int) == 9) = false := by simp; omega
              have q4 : ((s[k].toNat : Int) == 0) = false := by simp; omega
              have q5 : ¬ (s[k].toNat : Int) < 128 := by omega
              clear hA hB HACC
              go_wp2
              all_goals
                go_round
                case rel => exact ⟨k + 1, f, _, by rw [HAC.out], by go_num, by omega, by omega, HL.out, HF.out⟩
                case measure => simp [intOf]; omega
      · have HF := Lib.hid (show unvarL s.data.toList = (0, 0) by rw [← HN.out, show f = 0 by omega]; rfl)
        go_wp2
        go_ret2
        exact ⟨ret_2 (by rw [HF.out]; rfl) (by rw [HF.out]; rfl), rfl⟩
    · have HF := Lib.hid (show unvarL s.data.toList = (0, 0) by
        rw [← HN.out, List.drop_of_length_le (by simp; omega)]
        cases f <;> rfl)
      go_wp2
      go_ret2
      exact ⟨ret_2 (by rw [HF.out]; rfl) (by rw [HF.out]; rfl), rfl⟩
end Go.Proofs.YtaoejgnfoecpfaaDoor
namespace Go.Proofs.YtaoejgnfoecpfaaDoor
set_option linter.unusedVariables false
set_option linter.unusedSimpArgs false
set_option linter.unusedSectionVars false
open Go.RowKit

theorem ownsRow_below {B : Nat} {e : TypeId} {k : Nat} {v : Value} {n : Nat} {xs : List Value} {w w' : World} (h : w.ownsRow B e k v n xs) (hb : Below w.heap.size w w') : w'.ownsRow B e k v n xs :=
  h.kept (row := none) ⟨hb.os, hb.tape, hb.output, hb.size, fun j hj _ => hb.block j hj⟩ (by cases hv : v.ownBlock <;> simp)
theorem infoS : (Tryd.prog.info? 9).map (fun i => (i.zero, i.size, i.bytes)) = some (some (.string ⟨#[]⟩), 1, 16) := by kernel_rfl
theorem bytes_eq {a b : ByteArray} (h : a.toList = b.toList) : a = b := by
  rw [ba_toList, ba_toList] at h
  exact ByteArray.ext (Array.toList_inj.1 h)
theorem rest_txt (s : ByteArray) (p : Nat) : (s.extract p s.size).toList.isEmpty = decide (s.size ≤ p) := by
  rw [toList_isEmpty, ByteArray.size_extract]
  exact decide_eq_decide.2 (by omega)
end Go.Proofs.YtaoejgnfoecpfaaDoor
namespace Go.Proofs.YtaoejgnfoecpfaaDoor
set_option linter.unusedVariables false
set_option linter.unusedSimpArgs false
set_option linter.unusedSectionVars false
open Go.RowKit

/-- a block known whole (the kit's extra words) -/
def Blk (w : World) (g : Nat) (t : TypeId) (cs : Array Value) : Prop := w.heap[g]? = some (.cells cs t (0, 0))
section
variable {w w' : World} {g : Nat} {t : TypeId} {cs : Array Value}
theorem Blk.lt (h : Blk w g t cs) : g < w.heap.size := by
  rcases Nat.lt_or_ge g w.heap.size with hlt | hge
  · exact hlt
  · unfold Blk at h; rw [Array.getElem?_eq_none hge] at h; cases h
theorem Blk.cell (h : Blk w g t cs) (i : Nat) : w.cell? ⟨g, i, none⟩ = cs[i]? := cell_of_row w g i cs t (0, 0) h
theorem Blk.frozen (h : Blk w g t cs) (i : Nat) : w.frozen? ⟨g, i, none⟩ = false := by
  unfold Blk at h
  simp [World.frozen?, h]
theorem Blk.new (w : World) (t : TypeId) (cs : Array Value) : Blk (w.alloc (.cells cs t)) w.heap.size t cs := heap_alloc_new w _
theorem Blk.drew (h : Blk w g t cs) : Blk w.drew g t cs := h
theorem Blk.alloc (h : Blk w g t cs) (o : Obj) : Blk (w.alloc o) g t cs := (Below.heap_alloc w o g h.lt).trans h
theorem Blk.set_ (h : Blk w g t cs) (i : Nat) (u : Value) : Blk (w.setCell ⟨g, i, none⟩ u) g t (cs.setIfInBounds i u) := by
  unfold Blk at h ⊢
  simp [World.setCell, Array.getElem?_modify, h]
theorem Blk.far (h : Blk w g t cs) {p : Addr} (hp : g ≠ p.block) (u : Value) : Blk (w.setCell p u) g t cs := (Below.heap_setCell w p u g hp).trans h
theorem Blk.below {B : Nat} (h : Blk w g t cs) (hb : Below B w w') (hg : g < B) : Blk w' g t cs := (hb.block g hg).trans h
theorem Blk.grown {row : Option Nat} (h : Blk w g t cs) (hb : w.grownBy w' row) (hg : some g ≠ row) : Blk w' g t cs := (hb.block g h.lt hg).trans h
end
/-- only one block may have changed, and there are no new ones -/
structure Only (g : Nat) (w w' : World) : Prop where
  grown : w.grownBy w' (some g)
  size : w'.heap.size = w.heap.size
theorem Only.set (g i : Nat) (w : World) (u : Value) : Only g w (w.setCell ⟨g, i, none⟩ u) :=
  ⟨⟨rfl, rfl, rfl, by simp, fun k _ hk => Below.heap_setCell w _ _ k (fun e => hk (by rw [e]))⟩, by simp⟩
theorem Only.refl (g : Nat) (w : World) : Only g w w := ⟨World.grownBy.refl w _, rfl⟩
theorem Only.trans {g : Nat} {a b c : World} (h : Only g a b) (k : Only g b c) : Only g a c := ⟨h.grown.trans k.grown, k.size.trans h.size⟩
theorem Only.low {g B : Nat} {a w w' : World} (h : Only g w w') (hb : Below B a w) (hB : B ≤ w.heap.size) (hg : B ≤ g) : Below B a w' := hb.grown h.grown hB fun k hk => by cases hk; exact hg
theorem Only.far {g k : Nat} {w w' : World} {t : TypeId} {cs : Array Value} (h : Only g w w') (hb : Blk w k t cs) (hk : k ≠ g) : Blk w' k t cs := hb.grown h.grown (by simpa using hk)
/-- texts at an address, if there are any -/
def StrsA (W : World) (B : Nat) (A : Option Addr) (l : List ByteArray) : Prop := 0 < l.length → ∃ b o, A = some ⟨b, o, none⟩ ∧ b < B ∧ ∀ (j : Nat) (u : ByteArray), l[j]? = some u → W.cell? ⟨b, o + j, none⟩ = some (.string u)
def strsV (l : List ByteArray) : List Value := l.map Value.string
theorem own_strs {w : World} {B n c : Nat} {A : Option Addr} {l : List ByteArray} (h : w.ownsRow B 9 1 (.slice A n c) n (strsV l)) : StrsA w w.heap.size A l ∧ n = l.length := by
  have hn : n = l.length := by
    have := h.1
    simp [strsV] at this
    omega
  refine ⟨fun hl => ?_, hn⟩
  rcases h.2 with ⟨hv, _⟩ | ⟨g, cap, cur, hv, _⟩
  · simp at hv; omega
  · simp only [Value.slice.injEq] at hv
    obtain ⟨rfl, _, rfl⟩ := hv
    refine ⟨g, 0, rfl, (h.lt g rfl).2, fun j u hj => ?_⟩
    have hjl : j < l.length := (List.getElem?_eq_some_iff.1 hj).1
    rw [Nat.zero_add, h.cellAt j (by omega)]
    simp [strsV, hj]
theorem own_strs2 {w : World} {B n c : Nat} {A : Option Addr} {l : List ByteArray} (h : w.ownsRow B 9 1 (.slice A n c) n (strsV l)) (hl : 0 < l.length) : ∃ g, A = some ⟨g, 0, none⟩ ∧ B ≤ g ∧ g < w.heap.size ∧ ∀ (j : Nat) (u : ByteArray), l[j]? = some u → w.cell? ⟨g, 0 + j, none⟩ = some (.string u) := by
  have hn : n = l.length := by
    have := h.1
    simp [strsV] at this
    omega
  rcases h.2 with ⟨hv, _⟩ | ⟨g, cap, cur, hv, _⟩
  · simp at hv; omega
  · simp only [Value.slice.injEq] at hv
    obtain ⟨rfl, _, rfl⟩ := hv
    refine ⟨g, rfl, (h.lt g rfl).1, (h.lt g rfl).2, fun j u hj => ?_⟩
    have hjl : j < l.length := (List.getElem?_eq_some_iff.1 hj).1
    rw [Nat.zero_add, h.cellAt j (by omega)]
    simp [strsV, hj]
theorem own_form {w : World} {B n : Nat} {t : TypeId} {v : Value} {xs : List Value} (h : w.ownsRow B t 1 v n xs) : ∃ A c, v = .slice A n c ∧ n ≤ c := by
  rcases h.2 with ⟨hv, hn⟩ | ⟨g, cap, cur, hv, _, _, hc, _⟩
  · exact ⟨none, 0, by rw [hv, hn], by omega⟩
  · exact ⟨some ⟨g, 0, none⟩, cap, hv, hc⟩
theorem addr_add (b o j : Nat) : (⟨b, o, none⟩ : Addr).add j = ⟨b, o + j, none⟩ := by
  unfold Addr.add
  split <;> simp_all
theorem own_far {w : World} {B : Nat} {e : TypeId} {z n : Nat} {v : Value} {xs : List Value} (h : w.ownsRow B e z v n xs) {j : Nat} (hj : j < B) : v.ownBlock = none ∨ v.ownBlock ≠ some j := by
  cases hv : v.ownBlock with
  | none => exact .inl rfl
  | some k =>
    refine .inr fun e => ?_
    have := (h.lt k hv).1
    simp only [Option.some.injEq] at e
    omega
theorem own_ne {w : World} {B : Nat} {e : TypeId} {z n : Nat} {v : Value} {xs : List Value} (h : w.ownsRow B e z v n xs) {j : Nat} (hj : j < B) : some j ≠ v.ownBlock := fun e => by
  have := (h.lt j e.symm).1
  omega
theorem StrsA.below {W W' : World} {A : Option Addr} {l : List ByteArray} (h : StrsA W W.heap.size A l) (hb : Below W.heap.size W W') : StrsA W' W'.heap.size A l := fun hl => by
  obtain ⟨b, o, h1, h2, h3⟩ := h hl
  exact ⟨b, o, h1, Nat.lt_of_lt_of_le h2 hb.size, fun j u hj => (hb.cell (p := ⟨b, o + j, none⟩) h2).trans (h3 j u hj)⟩
/-- texts that lie below the boxes of a call -/
theorem StrsA.low {w W : World} {A : Option Addr} {l : List ByteArray} (h : StrsA w w.heap.size A l) (hb : Below w.heap.size w W) : StrsA W W.heap.size A l := h.below hb
theorem txt_ne (a b : ByteArray) : (a.toList == b.toList) = decide (a = b) := by
  by_cases h : a = b
  · rw [h]; simp
  · rw [decide_eq_false h, beq_eq_false_iff_ne]
    exact fun e => h (bytes_eq e)
end Go.Proofs.YtaoejgnfoecpfaaDoor
namespace Go.Proofs.YtaoejgnfoecpfaaDoor
set_option linter.unusedVariables false
set_option linter.unusedSimpArgs false
set_option linter.unusedSectionVars false
open Go.RowKit

def folV (a : ByteArray) (m t : Int) : Value := .iface 26 (.agg #[.string a, .int .i64 m, .int .i64 t])
def plaV (a : ByteArray) (m t z : Int) (A : Option Addr) (n c : Nat) : Value := .iface 75 (.agg #[.string a, .int .i64 m, .int .i64 t, .int .i64 z, .slice A n c])
def symV (a : ByteArray) (m t : Int) (g : ByteArray) : Value := .iface 103 (.agg #[.string a, .int .i64 m, .int .i64 t, .string g])
/-- a node's value: of a record -/
def NodeIs (w : World) (v : Value) (x : Nr) : Prop :=
  (x.kind = 1 ∧ v = folV x.at_ x.mode x.time) ∨
  (x.kind = 2 ∧ ∃ A c, v = plaV x.at_ x.mode x.time x.size A x.chunks.length c ∧ StrsA w w.heap.size A x.chunks ∧ (A = none → c = 0)) ∨
  (x.kind = 3 ∧ v = symV x.at_ x.mode x.time x.target) ∨
  (kindOk x = false ∧ (v = .nilIface ∨ ∃ g, v = .iface 134 (.pointer (some ⟨g, 0, none⟩))))
theorem NodeIs.below {w w' : World} {v : Value} {x : Nr} (h : NodeIs w v x) (hb : Below w.heap.size w w') : NodeIs w' v x := by
  rcases h with h | ⟨h, A, c, h1, h2, h3⟩ | h | h
  · exact .inl h
  · exact .inr (.inl ⟨h, A, c, h1, h2.below hb, h3⟩)
  · exact .inr (.inr (.inl h))
  · exact .inr (.inr (.inr h))
def kindR (x : Nr) : Int := if kindOk x = true then x.kind else 0
theorem kindOk_of {x : Nr} (h : 1 ≤ x.kind ∧ x.kind ≤ 3) : kindOk x = true := by unfold kindOk; simp [h]
def zFol : Value := .agg #[.string ⟨#[]⟩, .int .i64 0, .int .i64 0]
def zPla : Value := .agg #[.string ⟨#[]⟩, .int .i64 0, .int .i64 0, .int .i64 0, .slice none 0 0]
def zSym : Value := .agg #[.string ⟨#[]⟩, .int .i64 0, .int .i64 0, .string ⟨#[]⟩]
theorem taFF (u : Value) (w : World) : (Instr.typeAssert (.iface 26 u) 35 26 true).run Tryd.prog w = .ok (.tuple #[u, .bool true]) w := by kernel_rfl
theorem taPP (u : Value) (w : World) : (Instr.typeAssert (.iface 75 u) 35 75 true).run Tryd.prog w = .ok (.tuple #[u, .bool true]) w := by kernel_rfl
theorem taSS (u : Value) (w : World) : (Instr.typeAssert (.iface 103 u) 35 103 true).run Tryd.prog w = .ok (.tuple #[u, .bool true]) w := by kernel_rfl
theorem taPF (u : Value) (w : World) : (Instr.typeAssert (.iface 75 u) 35 26 true).run Tryd.prog w = .ok (.tuple #[zFol, .bool false]) w := by kernel_rfl
theorem taSF (u : Value) (w : World) : (Instr.typeAssert (.iface 103 u) 35 26 true).run Tryd.prog w = .ok (.tuple #[zFol, .bool false]) w := by kernel_rfl
theorem taQF (u : Value) (w : World) : (Instr.typeAssert (.iface 134 u) 35 26 true).run Tryd.prog w = .ok (.tuple #[zFol, .bool false]) w := by kernel_rfl
theorem taNF (w : World) : (Instr.typeAssert .nilIface 35 26 true).run Tryd.prog w = .ok (.tuple #[zFol, .bool false]) w := by kernel_rfl
theorem taFP (u : Value) (w : World) : (Instr.typeAssert (.iface 26 u) 35 75 true).run Tryd.prog w = .ok (.tuple #[zPla, .bool false]) w := by kernel_rfl
theorem taSP (u : Value) (w : World) : (Instr.typeAssert (.iface 103 u) 35 75 true).run Tryd.prog w = .ok (.tuple #[zPla, .bool false]) w := by kernel_rfl
theorem taQP (u : Value) (w : World) : (Instr.typeAssert (.iface 134 u) 35 75 true).run Tryd.prog w = .ok (.tuple #[zPla, .bool false]) w := by kernel_rfl
theorem taNP (w : World) : (Instr.typeAssert .nilIface 35 75 true).run Tryd.prog w = .ok (.tuple #[zPla, .bool false]) w := by kernel_rfl
theorem taFS (u : Value) (w : World) : (Instr.typeAssert (.iface 26 u) 35 103 true).run Tryd.prog w = .ok (.tuple #[zSym, .bool false]) w := by kernel_rfl
theorem taPS (u : Value) (w : World) : (Instr.typeAssert (.iface 75 u) 35 103 true).run Tryd.prog w = .ok (.tuple #[zSym, .bool false]) w := by kernel_rfl
theorem taQS (u : Value) (w : World) : (Instr.typeAssert (.iface 134 u) 35 103 true).run Tryd.prog w = .ok (.tuple #[zSym, .bool false]) w := by kernel_rfl
theorem taNS (w : World) : (Instr.typeAssert .nilIface 35 103 true).run Tryd.prog w = .ok (.tuple #[zSym, .bool false]) w := by kernel_rfl
theorem kind_any (v : Value) (x : Nr) (w : World) (h : NodeIs w v x) : Calls Tryd.prog 16 #[v] w fun e w' => e = .returned (.int .i64 (kindR x)) ∧ w = w' := by
  have t1 := taFF
  have t2 := taPP
  have t3 := taSS
  have t4 := taPF
  have t5 := taSF
  have t6 := taQF
  have t7 := taNF
  have t8 := taSP
  have t9 := taQP
  have t10 := taNP
  have t11 := taQS
  have t12 := taNS
  rcases h with ⟨h, rfl⟩ | ⟨h, A, c, rfl, _⟩ | ⟨h, rfl⟩ | ⟨h, rfl | ⟨g, rfl⟩⟩
  · have hk : kindR x = 1 := by unfold kindR; rw [if_pos (kindOk_of (by omega)), h]
    rw [hk]
    unfold folV
    clear h hk
    go_enter Tryd.func16, Tryd.ntmps16
    go_wp2
    go_ret
    exact ⟨rfl, rfl⟩
  · have hk : kindR x = 2 := by unfold kindR; rw [if_pos (kindOk_of (by omega)), h]
    rw [hk]
    unfold plaV
    clear h hk
    go_enter Tryd.func16, Tryd.ntmps16
    go_wp2
    go_ret
    exact ⟨rfl, rfl⟩
  · have hk : kindR x = 3 := by unfold kindR; rw [if_pos (kindOk_of (by omega)), h]
    rw [hk]
    unfold symV
    clear h hk
    go_enter Tryd.func16, Tryd.ntmps16
    go_wp2
    go_ret
    exact ⟨rfl, rfl⟩
  all_goals
    have hk : kindR x = 0 := by unfold kindR; rw [h]; rfl
    rw [hk]
    clear h hk
    go_enter Tryd.func16, Tryd.ntmps16
    go_wp2
    go_ret
    exact ⟨rfl, rfl⟩
end Go.Proofs.YtaoejgnfoecpfaaDoor
namespace Go.Proofs.YtaoejgnfoecpfaaDoor
set_option linter.unusedVariables false
set_option linter.unusedSimpArgs false
set_option linter.unusedSectionVars false
open Go.RowKit

def FactsPost (x : Nr) (w : World) (e : Ending) (w' : World) : Prop := e = .returned (.tuple #[.int .i64 x.mode, .int .i64 x.time]) ∧ Below w.heap.size w w'
theorem facts_any (v : Value) (x : Nr) (w : World) (h : NodeIs w v x) (hk : kindOk x = true) : Calls Tryd.prog 65 #[v] w (FactsPost x w) := by
  have t1 := taFF
  have t2 := taPP
  have t3 := taSS
  have t4 := taPF
  have t5 := taSF
  have t8 := taSP
  rcases h with ⟨h, rfl⟩ | ⟨h, A, c, rfl, _⟩ | ⟨h, rfl⟩ | ⟨h, _⟩
  · unfold folV
    have hb := (Below.refl w.heap.size w).alloc (Nat.le_refl _) (.cells #[.string x.at_, .int .i64 x.mode, .int .i64 x.time] 26)
    have HB := Lib.hid hb
    clear hk h hb
    go_enter Tryd.func65, Tryd.ntmps65
    go_wp2
    go_quiet (fail)
    go_wp2
    go_ret2
    exact ⟨rfl, Go.below_drewN HB.out nq⟩
  · unfold plaV
    have hb := (Below.refl w.heap.size w).alloc (Nat.le_refl _) (.cells #[.string x.at_, .int .i64 x.mode, .int .i64 x.time, .int .i64 x.size, .slice A x.chunks.length c] 75)
    have HB := Lib.hid hb
    clear hk h hb
    go_enter Tryd.func65, Tryd.ntmps65
    go_wp2
    go_quiet (fail)
    go_wp2
    go_ret2
    exact ⟨rfl, Go.below_drewN HB.out nq⟩
  · unfold symV
    have hb := (Below.refl w.heap.size w).alloc (Nat.le_refl _) (.cells #[.string x.at_, .int .i64 x.mode, .int .i64 x.time, .string x.target] 103)
    have HB := Lib.hid hb
    clear hk h hb
    go_enter Tryd.func65, Tryd.ntmps65
    go_wp2
    go_quiet (fail)
    go_wp2
    go_ret2
    exact ⟨rfl, Go.below_drewN HB.out nq⟩
  · rw [hk] at h; cases h
theorem tgt_of {s : ByteArray} (ha : (s.data.toList.all fun c => decide (c ≠ 0)) = true) : tgt s = (!s.toList.isEmpty && decide ((s.size : Int) ≤ 200)) := by
  unfold tgt
  rw [ha, toList_isEmpty, Bool.eq_iff_iff]
  simp only [Bool.and_true, Bool.and_eq_true, decide_eq_true_eq, Bool.not_eq_true', decide_eq_false_iff_not]
  omega
theorem tgt_no {s : ByteArray} (ha : (s.data.toList.all fun c => decide (c ≠ 0)) = false) : tgt s = false := by unfold tgt; rw [ha, Bool.and_false]
theorem u8_zero (c : UInt8) : decide (c ≠ 0) = !((c.toNat : Int) == 0) := by
  rw [Bool.eq_iff_iff]
  simp only [ne_eq, decide_eq_true_eq, Bool.not_eq_true', beq_eq_false_iff_ne]
  constructor
  · intro h e
    apply h
    apply UInt8.toNat_inj.1
    show c.toNat = 0
    omega
  · rintro h rfl
    exact h rfl
set_option maxRecDepth 100000 in
set_option maxHeartbeats 400000 in
theorem target_any (s : ByteArray) (w : World) (hs : s.size ≤ 140737488355328) :
    Calls Tryd.prog 45 #[.string s] w fun e w' => e = .returned (.bool (tgt s)) ∧ Below w.heap.size w w' := by
  obtain ⟨cap, w1, hcv, hb, hz, hcell⟩ := bytes_of_string (P := Tryd.prog) w 9 46 5 s Tryd.underlying9 Tryd.underlying46 Tryd.underlying5
  have Hcell := Lib.hid hcell
  clear hcell
  go_enter Tryd.func45, Tryd.ntmps45
  go_wp2
  go_loop [8] (fun i => ∃ k : Nat, k ≤ s.size ∧ i = .int .i64 k ∧ ((s.data.toList.take k).all fun c => decide (c ≠ 0)) = true) (fun i => s.size - (intOf i).toNat)
  case atStart => exact ⟨0, Nat.zero_le _, rfl, rfl⟩
  case round =>
    obtain ⟨k, hk, rfl, hall⟩ := hrel
    have Hall := Lib.hid hall
    clear hall
    by_cases hlt : k < s.size
    · have hc := Hcell.out k hlt
      have Hf := Lib.hid fun (h : decide (s[k] ≠ 0) = false) => tgt_no (ba_all_false (p := fun c => decide (c ≠ 0)) s k hlt h)
      have Hs := Lib.hid (ba_all_snoc (p := fun c => decide (c ≠ 0)) s k hlt Hall.out)
      have hz0 := u8_zero s[k]
      generalize s[k] = c at *
      cases hq : ((c.toNat : Int) == 0) with
      | true =>
        rw [hq] at hz0
        have HZ := Lib.hid hz0
        clear hz0
        go_wp2
        go_ret
        exact ⟨ret_bool (Hf.out HZ.out).symm, hb⟩
      | false =>
        rw [hq] at hz0
        have HZ := Lib.hid hz0
        clear hz0
        go_wp2
        go_round
        case rel => exact ⟨k + 1, by omega, by go_num, Hs.out HZ.out⟩
        case measure => simp [intOf]; omega
    · obtain rfl : k = s.size := by omega
      have e := tgt_of (s := s) (by have := Hall.out; rwa [ba_take_all] at this)
      have E := Lib.hid e
      clear e
      by_cases h0 : s.toList.isEmpty = true
      · rw [h0] at E
        go_wp2
        go_ret
        exact ⟨ret_bool (by rw [E.out]; rfl), hb⟩
      · have h0' : s.toList.isEmpty = false := by simpa using h0
        rw [h0'] at E
        clear h0
        go_wp2
        go_ret
        exact ⟨ret_bool (by rw [E.out]; rfl), hb⟩
theorem blk5 {w : World} {g : Nat} {t : TypeId} {a b c d e : Value} (h : Blk w g t #[a, b, c, d, e]) : w.cell? ⟨g, 0, none⟩ = some a ∧ w.cell? ⟨g, 1, none⟩ = some b ∧ w.cell? ⟨g, 2, none⟩ = some c ∧ w.cell? ⟨g, 3, none⟩ = some d ∧ w.cell? ⟨g, 4, none⟩ = some e :=
  ⟨h.cell 0, h.cell 1, h.cell 2, h.cell 3, h.cell 4⟩
set_option maxRecDepth 100000 in
set_option maxHeartbeats 400000 in
theorem asPlain_pl (a : ByteArray) (m t z : Int) (A : Option Addr) (n c : Nat) (w : World) :
    Calls Tryd.prog 42 #[plaV a m t z A n c] w fun e w' => e = .returned (.tuple #[.agg #[.string a, .int .i64 m, .int .i64 t, .int .i64 z, .slice A n c], .bool true]) ∧ Below w.heap.size w w' := by
  have t2 := taPP
  unfold plaV
  have hk := (Blk.new w 75 #[.string a, .int .i64 m, .int .i64 t, .int .i64 z, .slice A n c]).alloc (.cells #[.string a, .int .i64 m, .int .i64 t, .int .i64 z, .slice A n c] 75)
  have hb : Below w.heap.size w ((w.alloc (.cells #[.string a, .int .i64 m, .int .i64 t, .int .i64 z, .slice A n c] 75)).alloc (.cells #[.string a, .int .i64 m, .int .i64 t, .int .i64 z, .slice A n c] 75)) := ((Below.refl _ _).alloc (Nat.le_refl _) _).alloc (by simp) _
  obtain ⟨r0, r1, r2, r3, r4⟩ := blk5 hk
  have HB := Lib.hid hb
  clear hk hb
  go_enter Tryd.func42, Tryd.ntmps42
  go_wp2
  refine bodyPost_ret (v := .tuple #[.agg #[.string a, .int .i64 m, .int .i64 t, .int .i64 z, .slice A n c], .bool true]) (by simp [results, Tryd.results42, go_sem, r0, r1, r2, r3, r4]) rfl ?_
  exact ⟨rfl, HB.out⟩
/-- a value that is no file -/
def NoPl (v : Value) : Prop := (∃ u, v = .iface 26 u) ∨ (∃ u, v = .iface 103 u) ∨ (∃ u, v = .iface 134 u) ∨ v = .nilIface
set_option maxRecDepth 100000 in
set_option maxHeartbeats 400000 in
theorem asPlain_no (v : Value) (hv : NoPl v) (w : World) :
    Calls Tryd.prog 42 #[v] w fun e w' => e = .returned (.tuple #[.agg #[.string ⟨#[]⟩, .int .i64 0, .int .i64 0, .int .i64 0, .slice none 0 0], .bool false]) ∧ Below w.heap.size w w' := by
  have t1 := taFP
  have t2 := taSP
  have t3 := taQP
  have t4 := taNP
  unfold zPla at t1 t2 t3 t4
  have hk := (Blk.new w 75 #[.string ⟨#[]⟩, .int .i64 0, .int .i64 0, .int .i64 0, .slice none 0 0]).alloc (.cells #[.string ⟨#[]⟩, .int .i64 0, .int .i64 0, .int .i64 0, .slice none 0 0] 75)
  have hb : Below w.heap.size w ((w.alloc (.cells #[.string ⟨#[]⟩, .int .i64 0, .int .i64 0, .int .i64 0, .slice none 0 0] 75)).alloc (.cells #[.string ⟨#[]⟩, .int .i64 0, .int .i64 0, .int .i64 0, .slice none 0 0] 75)) := ((Below.refl _ _).alloc (Nat.le_refl _) _).alloc (by simp) _
  obtain ⟨r0, r1, r2, r3, r4⟩ := blk5 hk
  have HB := Lib.hid hb
  clear hk hb
  rcases hv with ⟨u, rfl⟩ | ⟨u, rfl⟩ | ⟨u, rfl⟩ | rfl
  all_goals
    go_enter Tryd.func42, Tryd.ntmps42
    go_wp2
    refine bodyPost_ret (v := .tuple #[.agg #[.string ⟨#[]⟩, .int .i64 0, .int .i64 0, .int .i64 0, .slice none 0 0], .bool false]) (by simp [results, Tryd.results42, go_sem, r0, r1, r2, r3, r4]) rfl ?_
    exact ⟨rfl, HB.out⟩
theorem pis_big (s : ByteArray) (w : World) (he : Env w) (hs : s.size ≤ 140737488355328) : Calls Tryd.prog 15 #[.string s] w fun e w' => e = .returned (.bool (isPath s)) ∧ Below w.heap.size w w' := by
  by_cases h : s.size ≤ 1099511627776
  · exact pis_any s w he h
  · have HN := Lib.hid (show isPath s = false by unfold isPath; rw [decide_eq_false (show ¬ s.size ≤ 200 by omega)]; simp)
    have h60 : (200 : Int) < (s.size : Int) := by omega
    have HB0 := Lib.hid ((Below.refl w.heap.size w).alloc (Nat.le_refl _) (.cells #[.bool false] 4))
    go_enter Tryd.func15, Tryd.ntmps15
    go_wp2
    have r0 : (w.alloc (.cells #[.bool false] 4)).cell? ⟨w.heap.size, 0, none⟩ = some (.bool false) := (Blk.new w 4 #[.bool false]).cell 0
    refine bodyPost_ret (v := .bool false) (by simp [results, Tryd.results15, go_sem, r0]) rfl ?_
    exact ⟨ret_bool HN.out.symm, HB0.out⟩
/-- a node's method by its type -/
theorem mFol (n : Nat) (u : Value) (w : World) : (Go.method (n + 1) 26 u "Path").run Tryd.prog w = .ok (176, u) w := by kernel_rfl
theorem mPla (n : Nat) (u : Value) (w : World) : (Go.method (n + 1) 75 u "Path").run Tryd.prog w = .ok (178, u) w := by kernel_rfl
theorem mSym (n : Nat) (u : Value) (w : World) : (Go.method (n + 1) 103 u "Path").run Tryd.prog w = .ok (179, u) w := by kernel_rfl
theorem pathF (a : ByteArray) (m t : Int) (w : World) : Calls Tryd.prog 176 #[.agg #[.string a, .int .i64 m, .int .i64 t]] w fun e w' => e = .returned (.string a) ∧ Below w.heap.size w w' := by
  have hb := (Below.refl w.heap.size w).alloc (Nat.le_refl _) (.cells #[.string a, .int .i64 m, .int .i64 t] 26)
  go_enter Tryd.func176, Tryd.ntmps176
  go_wp2
  go_ret
  exact ⟨rfl, hb⟩
theorem pathP (a : ByteArray) (m t z : Int) (A : Option Addr) (n c : Nat) (w : World) : Calls Tryd.prog 178 #[.agg #[.string a, .int .i64 m, .int .i64 t, .int .i64 z, .slice A n c]] w fun e w' => e = .returned (.string a) ∧ Below w.heap.size w w' := by
  have hb := (Below.refl w.heap.size w).alloc (Nat.le_refl _) (.cells #[.string a, .int .i64 m, .int .i64 t, .int .i64 z, .slice A n c] 75)
  go_enter Tryd.func178, Tryd.ntmps178
  go_wp2
  go_ret
  exact ⟨rfl, hb⟩
theorem pathS (a : ByteArray) (m t : Int) (g : ByteArray) (w : World) : Calls Tryd.prog 179 #[.agg #[.string a, .int .i64 m, .int .i64 t, .string g]] w fun e w' => e = .returned (.string a) ∧ Below w.heap.size w w' := by
  have hb := (Below.refl w.heap.size w).alloc (Nat.le_refl _) (.cells #[.string a, .int .i64 m, .int .i64 t, .string g] 103)
  go_enter Tryd.func179, Tryd.ntmps179
  go_wp2
  go_ret
  exact ⟨rfl, hb⟩
end Go.Proofs.YtaoejgnfoecpfaaDoor
namespace Go.Proofs.YtaoejgnfoecpfaaDoor
set_option linter.unusedVariables false
set_option linter.unusedSimpArgs false
set_option linter.unusedSectionVars false
open Go.RowKit

theorem bytesV_set (done : List UInt8) (c d : UInt8) : (bytesV (done ++ [c])).set done.length (.int .u8 d.toNat) = bytesV (done ++ [d]) := by
  simp [bytesV, List.set_append_right]
/-- wpList_app1 where the new block's number is spelled otherwise -/
theorem wpList_app1s {P : Program} {w : World} {ops : Array Oper} {rest : List Oper} {o : Oper} {a : Act} {Q : Exit → Act → World → Prop} (hgd : o.guard = none) (s x : Operand) (t : TypeId)
    (ho : o.op = .call { callee := .builtin .append, args := #[s, x], argTypes := #[t, t] })
    (base : Nat) (e : TypeId) {z : Value} {size bytes : Nat} (ht : P.underlying t = some (.slice e))
    (hinfo : (P.info? e).map (fun i => (i.zero, i.size, i.bytes)) = some (some z, size, bytes)) (hzs : z.cells.size = size) (hsz : 0 < size)
    (v : Value) (n : Nat) (xs : List Value) (hs : a.eval s = v) (hown : w.ownsRow base e size v n xs)
    (cs : Array Value) {bz : Nat} (hbz : bz = w.heap.size) (hx : a.eval x = .slice (some ⟨bz, 0, none⟩) 1 1) (hl : cs.size = size) (h1 : ∀ u ∈ cs.toList, u.oneCell' = true)
    (hbytes : (n + 1) * bytes ≤ 140737488355328) (h63 : n + 1 ≤ 140737488355328) (hbase : base ≤ w.heap.size)
    (h : ∀ g cap w', w'.ownsRow base e size (.slice (some ⟨g, 0, none⟩) (n + 1) cap) (n + 1) (xs ++ cs.toList) → w.grownBy w' v.ownBlock → Below base w w' → (v.ownBlock = some g ∨ g = w.heap.size + 1) → wpList P ops Q rest (a.put o.dst (.slice (some ⟨g, 0, none⟩) (n + 1) cap)) w') :
    wpList P ops Q (o :: rest) a (w.alloc (.cells cs e)) := by
  subst hbz
  exact wpList_app1 hgd s x t ho base e ht hinfo hzs hsz v n xs hs hown cs hx hl h1 hbytes h63 hbase h
theorem bytesV_last (done : List UInt8) (c : UInt8) : (bytesV (done ++ [c]))[done.length]? = some (.int .u8 c.toNat) := by
  simp [bytesV]
set_option maxRecDepth 100000 in
set_option maxHeartbeats 1600000 in
theorem refvar_any (x : Nat) (w : World) (hx : x < 18446744073709551616) :
    Calls Tryd.prog 106 #[.int .u64 x] w fun e w' => e = .returned (.string ⟨(varL x).toArray⟩) ∧ Below w.heap.size w w' := by
  have h0 : x < 128 ^ (10 + 1) := Nat.lt_trans hx (by decide)
  have HX := Lib.hid hx
  have hw0 : IntKind.u8.wrap ((x : Int) % 128) = (x : Int) % 128 := IntWalk.u8_in _ (by omega)
  have hwx : IntKind.u64.wrap ((x : Int) / 128) = (x : Int) / 128 := by rw [IntKind.wrap_u64]; omega
  clear hx
  go_enter Tryd.func106, Tryd.ntmps106
  go_wp2
  go_loopw [0, 3] (fun y v wr => ∃ (z f g cap : Nat) (done : List UInt8), y = .int .u64 ((z / 128 : Nat) : Int) ∧ v = .slice (some ⟨g, 0, none⟩) (done.length + 1 : Nat) cap ∧ z ≤ x ∧ wr.ownsRow w.heap.size 5 1 (.slice (some ⟨g, 0, none⟩) (done.length + 1) cap) (done.length + 1) (bytesV (done ++ [UInt8.ofNat (z % 128)])) ∧ Below w.heap.size w wr ∧ done ++ varF f z = varL x ∧ done.length + f ≤ 10 ∧ z < 128 ^ (f + 1)) (fun y _ _ => (intOf y).toNat)
  case atStart =>
    refine ⟨x, 10, w.heap.size, 1, [], ?_, rfl, Nat.le_refl _, ?_, (Below.refl _ w).alloc (Nat.le_refl _) _, rfl, by simp, h0⟩
    · rw [show ((x / 128 : Nat) : Int) = (x : Int) / 128 by omega]
    · have := World.ownsRow_lit (e := 5) (size := 1) w #[.int .u8 ((x : Int) % 128)] 1 (Nat.le_refl _) (by decide) rfl
      have e : bytesV ([] ++ [UInt8.ofNat (x % 128)]) = [.int .u8 ((x : Int) % 128)] := by
        simp only [List.nil_append, bytesV, List.map_cons, List.map_nil]
        rw [u8_small (by omega), show ((x % 128 : Nat) : Int) = (x : Int) % 128 by omega]
      rw [e]
      exact this
  case round =>
    obtain ⟨z, f, g, cap, done, rfl, rfl, hzx, hown, hb, hn, hlf, hz⟩ := hrel
    have HN := Lib.hid hn
    have HZ := Lib.hid hz
    have HZLE := Lib.hid hzx
    have HZX := Lib.hid (Nat.lt_of_le_of_lt hzx HX.out)
    have HOWN := Lib.hid hown
    have hsz := hb.size
    have hll : done.length ≤ 10 := by omega
    clear hn hz hzx
    by_cases h : z < 128
    · have hz0 : ((z / 128 : Nat) : Int) = 0 := by omega
      rw [hz0]
      have hV : done ++ [UInt8.ofNat (z % 128)] = varL x := by rw [Nat.mod_eq_of_lt h, ← varF_small (f := f) h]; exact HN.out
      have hcv := run_convert_own 46 9 5 Tryd.underlying46 Tryd.underlying5 Tryd.underlying9 hown
      rw [hV] at hcv
      clear hV hz0 h hown
      go_wp2
      go_ret
      exact ⟨rfl, hb⟩
    · obtain ⟨f, rfl⟩ : ∃ g, f = g + 1 := by
        cases f with
        | zero => have := HZ.out; simp at this; omega
        | succ g => exact ⟨g, rfl⟩
      have hq1 : (0 : Int) < ((z / 128 : Nat) : Int) := by omega
      have HV := Lib.hid (show (done ++ [UInt8.ofNat (z % 128 + 128)]) ++ varF f (z / 128) = varL x by rw [← HN.out, varF_great h, List.append_assoc]; rfl)
      have HQ := Lib.hid (show z / 128 ≤ x from Nat.le_trans (Nat.div_le_self _ _) HZLE.out)
      have HP := Lib.hid (show z / 128 < 128 ^ (f + 1) by rw [Nat.div_lt_iff_lt_mul (by decide), Nat.mul_comm, ← pow128]; exact HZ.out)
      have hm : z % 128 < 128 := by omega
      have hwq : IntKind.u64.wrap (((z / 128 : Nat) : Int) / 128) = ((z / 128 : Nat) : Int) / 128 := by rw [IntKind.wrap_u64]; have := HZX.out; omega
      have hm2 : IntKind.u8.wrap (((z / 128 : Nat) : Int) % 128) = ((z / 128 : Nat) : Int) % 128 := IntWalk.u8_in _ (by omega)
      have HLT := Lib.hid (show z / 128 < z by omega)
      clear h
      generalize z / 128 = q at *
      generalize z % 128 = c at *
      have hcell := hown.cellAt done.length (by omega)
      rw [bytesV_last, u8_small (by omega)] at hcell
      have hfz := hown.frozenAt done.length
      have hst := hown.stored done.length (.int .u8 ((c : Int) + 128))
      rw [show Value.int .u8 ((c : Int) + 128) = .int .u8 ((UInt8.ofNat (c + 128)).toNat : Int) by rw [u8_small (by omega)]; rfl, bytesV_set, ← show Value.int .u8 ((c : Int) + 128) = .int .u8 ((UInt8.ofNat (c + 128)).toNat : Int) by rw [u8_small (by omega)]; rfl] at hst
      have HST := Lib.hid hst
      have hown2 := hst.1
      have hb2 : Below w.heap.size w (wr.setCell ⟨g, done.length, none⟩ (.int .u8 ((c : Int) + 128))) := hb.grown hst.2 hsz (fun j hj => by cases hj; exact (hown.lt g rfl).1)
      have hsz2 : w.heap.size ≤ (wr.setCell ⟨g, done.length, none⟩ (.int .u8 ((c : Int) + 128))).heap.size := hb2.size
      have HSZ3 := Lib.hid (show wr.heap.size = (wr.setCell ⟨g, done.length, none⟩ (.int .u8 ((c : Int) + 128))).heap.size by simp)
      clear hst hown
      go_wp2_with (at_builtin; refine wpList_app1s rfl _ _ 46 rfl w.heap.size 5 Tryd.underlying46 infoB rfl (by decide) _ _ _ rfl hown2 _ HSZ3.out rfl rfl (oneCell_int _ _) ?_ ?_ ?_ ?_; omega; omega; exact hsz2; intro g1 cap1 w5 hown' hgr hbw _)
      go_roundw
      case rel =>
        refine ⟨q, f, g1, cap1, done ++ [UInt8.ofNat (c + 128)], ?_, by simp, HQ.out, ?_, hb2.trans hbw, HV.out, by simp; omega, HP.out⟩
        · rw [show ((q / 128 : Nat) : Int) = (q : Int) / 128 by omega]
        · rw [bytesV_app]
          have e : bytesV [UInt8.ofNat (q % 128)] = [.int .u8 ((q : Int) % 128)] := by
            simp only [bytesV, List.map_cons, List.map_nil]
            rw [u8_small (by omega), show ((q % 128 : Nat) : Int) = (q : Int) % 128 by omega]
          rw [e]
          simpa using hown'
      case measure => simp [intOf]; omega
end Go.Proofs.YtaoejgnfoecpfaaDoor
