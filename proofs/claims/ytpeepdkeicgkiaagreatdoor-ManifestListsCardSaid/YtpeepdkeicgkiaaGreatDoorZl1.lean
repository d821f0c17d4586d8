/- The disk's Arm (stand-in at this seat). The disk's Spoil. The laws' own Few and Same; rows of texts. The disk's calls by their kinds, as the laws make them. ManifestLists, plainly. Manifests: reading, the document's: the walk (printed by wip/gen/mkread.py). ManifestLists: the document's Is, what a dead disk lists, snapshots' '=='. ManifestLists: what stands beside the disk. ManifestLists: its walk. -/
import Derived.Test.YtpeepdkeicgkiaaGreatDoorZo18
import Derived.Deep.RegionWith
import Derived.Test.YtpeepdkeicgkiaaGreatDoorZo26
import Derived.Test.YtpeepdkeicgkiaaGreatDoorZo23
import Derived.Laws.StructEq
import Derived.Test.YtpeepdkeicgkiaaGreatDoorZo3
import Derived.Test.YtpeepdkeicgkiaaGreatDoorZo17
import Derived.Deep.DeepCutAuto
import Derived.Deep.LoopGhost
namespace Go.Proofs.YtpeepdkeicgkiaaGreatDoor
set_option linter.unusedVariables false
set_option linter.unusedSimpArgs false
set_option linter.unusedSectionVars false
open Go.RowKit Go.Maps

def Dk.armed (D : Dk) (n : Int) : Dk := { D with arm := max n (-1) }

set_option maxHeartbeats 400000 in
set_option maxRecDepth 100000 in
theorem arm_any (b : Nat) (D : Dk) (L : Lay) (n : Int) (w : World) (h : DiskAt w b D L) (hn : n ≤ 9223372036854775807) :
    Calls Tryz.prog 58 #[.pointer (some ⟨b, 0, none⟩), .int .i64 n] w fun e w' => e = .returned (.tuple #[]) ∧ DkPost b L (D.armed n) w w' := by
  have f4 : w.frozen? ⟨b, 4, none⟩ = false := h.blk.free 4
  have c4 : w.cell? ⟨b, 4, none⟩ = some (.int .i64 D.arm) := h.blk.cell 4
  have hp : ∀ m : Int, -1 ≤ m ∧ m ≤ 9223372036854775807 → DkPost b L { D with arm := m } w (w.setCell ⟨b, 4, none⟩ (.int .i64 m)) := fun m hm =>
    dkSame (h.cells m D.dead hm (h.blk.set 4 (.int .i64 m)) (Touch.setc _ _ _ _)) (Touch.setc _ _ _ _)
  have HP := Lib.hid hp
  clear h hp
  go_enter Tryz.func58, Tryz.ntmps58
  go_wp2
  go_end0
  exact ⟨rfl, HP.out (max n (-1)) (by omega)⟩

end Go.Proofs.YtpeepdkeicgkiaaGreatDoor
namespace Go.Proofs.YtpeepdkeicgkiaaGreatDoor
set_option linter.unusedVariables false
set_option linter.unusedSimpArgs false
set_option linter.unusedSectionVars false
open Go.RowKit Go.Maps

/-- a byte of a text is another one -/
def spoilB (d : ByteArray) (k : Nat) (c : UInt8) : ByteArray := d.extract 0 k ++ strL' c ++ d.extract (k + 1) d.size
where strL' (c : UInt8) : ByteArray := ⟨#[c]⟩
theorem spoilB_size (d : ByteArray) (k : Nat) (c : UInt8) (h : k < d.size) : (spoilB d k c).size = d.size := by
  unfold spoilB
  rw [ByteArray.size_append, ByteArray.size_append, ByteArray.size_extract, ByteArray.size_extract]
  show _ + 1 + _ = _
  omega
def Dk.spoil (D : Dk) (name : ByteArray) (k : Int) (c : UInt8) : Dk × Int :=
  match kvGet D.folder name with
  | none => (D, 7)
  | some i => if k < 0 ∨ ((D.flAt i).data.size : Int) ≤ k then (D, 1) else ({ D with files := D.files.set i ⟨spoilB (D.flAt i).data k.toNat c, (D.flAt i).safe⟩ }, 0)

theorem byte_string (w : World) (c : UInt8) :
    (convert 76 9 (.slice (some ⟨w.heap.size, 0, none⟩) 1 1)).run Tryz.prog (w.alloc (.cells #[.int .u8 (c.toNat : Int)] 5)) = .ok (.string (spoilB.strL' c)) (w.alloc (.cells #[.int .u8 (c.toNat : Int)] 5)) := by
  refine run_convert_own 76 9 5 Tryz.underlying76 Tryz.underlying5 Tryz.underlying9 (base := w.heap.size) (n := 1) (l := [c]) ?_
  exact World.ownsRow_lit (base := w.heap.size) (size := 1) (e := 5) w #[.int .u8 (c.toNat : Int)] 1 (Nat.le_refl _) (by decide) rfl

theorem byte_string2 (w : World) (c : UInt8) :
    (convert 76 9 (.slice (some ⟨w.heap.size, 0, none⟩) 1 1)).run Tryz.prog (w.alloc (.cells #[.int .u8 (c.toNat : Int)] 5)).drew = .ok (.string (spoilB.strL' c)) (w.alloc (.cells #[.int .u8 (c.toNat : Int)] 5)).drew := by
  refine run_convert_own 76 9 5 Tryz.underlying76 Tryz.underlying5 Tryz.underlying9 (base := w.heap.size) (n := 1) (l := [c]) ?_
  exact (World.ownsRow_lit (base := w.heap.size) (size := 1) (e := 5) w #[.int .u8 (c.toNat : Int)] 1 (Nat.le_refl _) (by decide) rfl).drew

theorem BlockIs.drewNS {w : World} {b : Nat} {cs : Array Value} {t : TypeId} (h : BlockIs w b cs t) (n : Nat) : BlockIs (w.drewN n) b cs t := h
theorem Below.drewN_reflS {B : Nat} {w : World} (n : Nat) : Below B w (w.drewN n) := ⟨rfl, rfl, rfl, Nat.le_refl _, fun _ _ => rfl⟩
theorem spoil_blk {w : World} {bc : Nat} {data new : ByteArray} {safe : Nat} (h : BlockIs w bc (flCells ⟨data, safe⟩) 101) (_hb : bc < w.heap.size) (n : Nat) (o : Obj) :
    BlockIs (((w.setCell ⟨bc, 0, none⟩ (.string new)).alloc o).drewN n) bc (flCells ⟨new, safe⟩) 101 ∧ Touch (· = bc) w (((w.setCell ⟨bc, 0, none⟩ (.string new)).alloc o).drewN n) := by
  have h1 : BlockIs (w.setCell ⟨bc, 0, none⟩ (.string new)) bc (flCells ⟨new, safe⟩) 101 := h.set 0 _
  have ht := Touch.setc w bc 0 (.string new)
  have hb : Below (w.setCell ⟨bc, 0, none⟩ (.string new)).heap.size (w.setCell ⟨bc, 0, none⟩ (.string new)) ((w.setCell ⟨bc, 0, none⟩ (.string new)).alloc o) := (Below.refl _ _).alloc (Nat.le_refl _) o
  exact ⟨(h1.keep (hb.block bc h1.lt)).drewNS n, ht.trans ((Touch.of_below (fun _ => False) hb).trans (Touch.of_below (fun _ => False) (Below.drewN_reflS n)) (fun _ _ h => h)) (fun _ _ h => h.elim)⟩

set_option maxRecDepth 100000 in
set_option maxHeartbeats 12800000 in
theorem spoil_any (b : Nat) (D : Dk) (L : Lay) (name : ByteArray) (k : Int) (c : UInt8) (w : World) (h : DiskAt w b D L) (hs : name.size ≤ 9223372036854775807) :
    Calls Tryz.prog 59 #[.pointer (some ⟨b, 0, none⟩), .string name, .int .i64 k, .int .u8 c.toNat] w fun e w' => e = .returned (.int .i64 (D.spoil name k c).2) ∧ DkPost b L (D.spoil name k c).1 w w' := by
  have hsz := ba_lenD hs
  have hz0 := fun w => zero_ptr w
  have c1 : w.cell? ⟨b, 1, none⟩ = some (.map (some L.bm)) := h.blk.cell 1
  have hmp := h.mp
  have hsame : DkPost b L D w w := dkSame h (Touch.refl _ _)
  cases hg : kvGet D.folder name with
  | none =>
    have hget := kvGet_none (L := L) hg
    have e : D.spoil name k c = (D, 7) := by unfold Dk.spoil; rw [hg]
    rw [e]
    have HS := Lib.hid hsame
    clear e hg h hsame
    go_enter Tryz.func59, Tryz.ntmps59
    go_wp2_with (first
      | (at_lookup; refine wpList_kvNone rfl _ _ 69 rfl Tryz.underlying9 Tryz.underlying69 (hz0 _) rfl hmp rfl hsz hget ?_)
      | go_in)
    go_ret
    exact ⟨rfl, HS.out⟩
  | some i =>
    obtain ⟨hi, hget⟩ := kvGet_found h hg
    have hblk := h.fs i hi
    have hle := flAt_le h.ok i
    have d0 : w.cell? ⟨L.bs.getD i 0, 0, none⟩ = some (.string (D.flAt i).data) := hblk.cell 0
    have f0 : w.frozen? ⟨L.bs.getD i 0, 0, none⟩ = false := hblk.free 0
    by_cases hk : k < 0 ∨ ((D.flAt i).data.size : Int) ≤ k
    · have e : D.spoil name k c = (D, 1) := by unfold Dk.spoil; rw [hg]; exact if_pos hk
      rw [e]
      have HS := Lib.hid hsame
      clear e hg h hsame hblk
      unfold fileV ptrV at hget
      generalize L.bs.getD i 0 = bc at *
      generalize D.flAt i = fl at *
      obtain ⟨data, safe⟩ := fl
      simp only at d0 hk hle
      rcases hk with hk | hk
      · go_enter Tryz.func59, Tryz.ntmps59
        go_wp2_with (first
          | (at_lookup; refine wpList_kvFound rfl _ _ 69 rfl Tryz.underlying9 Tryz.underlying69 (hz0 _) rfl hmp rfl hsz hget ?_)
          | go_in)
        go_ret
        exact ⟨rfl, HS.out⟩
      · have hk0 : 0 ≤ k := by omega
        go_enter Tryz.func59, Tryz.ntmps59
        go_wp2_with (first
          | (at_lookup; refine wpList_kvFound rfl _ _ 69 rfl Tryz.underlying9 Tryz.underlying69 (hz0 _) rfl hmp rfl hsz hget ?_)
          | go_in)
        go_ret
        exact ⟨rfl, HS.out⟩
    · obtain ⟨k, rfl⟩ : ∃ j : Nat, k = j := ⟨k.toNat, by omega⟩
      have hkl : k < (D.flAt i).data.size := by omega
      have e : D.spoil name k c = ({ D with files := D.files.set i ⟨spoilB (D.flAt i).data k c, (D.flAt i).safe⟩ }, 0) := by unfold Dk.spoil; rw [hg]; exact if_neg hk
      rw [e]
      have hz2 := spoilB_size (D.flAt i).data k c hkl
      have hfin : ∀ w', BlockIs w' (L.bs.getD i 0) (flCells ⟨spoilB (D.flAt i).data k c, (D.flAt i).safe⟩) 101 → Touch (· = L.bs.getD i 0) w w' → DkPost b L { D with files := D.files.set i ⟨spoilB (D.flAt i).data k c, (D.flAt i).safe⟩ } w w' := fun w' h1 ht =>
        ⟨L, h.setFile hi _ (by rw [hz2]; exact hle) h1 ht, ht.mono (fun k _ hk => by subst hk; exact bs_foot (by rw [h.len]; exact hi)), fun k hk => Or.inl hk⟩
      have HF := Lib.hid hfin
      have HB := Lib.hid hblk
      clear e hg h hsame hblk hfin hk
      unfold fileV ptrV at hget
      generalize L.bs.getD i 0 = bc at *
      generalize D.flAt i = fl at *
      obtain ⟨data, safe⟩ := fl
      simp only at d0 hkl hle
      have hbc := HB.out.lt
      have hk0 : (0 : Int) ≤ (k : Int) := by omega
      have hk1 : (k : Int) < (data.size : Int) := by omega
      have hk2 : (0 : Int) ≤ (k : Int) + 1 := by omega
      have hk3 : (k : Int) + 1 ≤ (data.size : Int) := by omega
      have hx1 : (data.extract 0 k).size ≤ 1073741824 := by rw [ByteArray.size_extract]; omega
      have hx2 : (data.extract (k + 1) data.size).size ≤ 1073741824 := by rw [ByteArray.size_extract]; omega
      have hx3 : (spoilB.strL' c).size ≤ 1 := Nat.le_refl _
      have hk4 : (k : Int) ≤ (data.size : Int) := by omega
      have hcv : (convert 76 9 (.slice (some ⟨w.heap.size, 0, none⟩) 1 1)).run Tryz.prog (w.alloc (.cells #[.int .u8 (c.toNat : Int)] 5)).drew = .ok (.string (spoilB.strL' c)) (w.alloc (.cells #[.int .u8 (c.toNat : Int)] 5)).drew := byte_string2 w c
      go_enter Tryz.func59, Tryz.ntmps59
      go_wp2_with (first
          | (at_lookup; refine wpList_kvFound rfl _ _ 69 rfl Tryz.underlying9 Tryz.underlying69 (hz0 _) rfl hmp rfl hsz hget ?_)
          | go_in)
      have hw1 : IntKind.i64.wrap ((k : Int) + 1) = (k : Int) + 1 := IntWalk.i64_in _ (by omega)
      have hw2 : ((k : Int) + 1).toNat = k + 1 := by omega
      go_region_with (fail)
      all_goals
        go_wp2
        go_ret
        refine ⟨rfl, ?_⟩
        first
          | exact HF.out _ (spoil_blk HB.out hbc _ _).1 (spoil_blk HB.out hbc _ _).2
          | (trace_state; sorry)
end Go.Proofs.YtpeepdkeicgkiaaGreatDoor
namespace Go.Proofs.YtpeepdkeicgkiaaGreatDoor
set_option linter.unusedVariables false
set_option linter.unusedSimpArgs false
set_option linter.unusedSectionVars false
open Go.RowKit Go.Maps

/-- cut to at most n bytes -/
def few (s : ByteArray) (n : Nat) : ByteArray := if s.size ≤ n then s else s.extract 0 n
theorem few_sizeB (s : ByteArray) (n : Nat) : (few s n).size ≤ n := by
  unfold few
  split
  · assumption
  · rw [ByteArray.size_extract]; omega
set_option maxHeartbeats 400000 in
set_option maxRecDepth 100000 in
theorem few_any (s : ByteArray) (n : Nat) (w : World) (_hm : s.size ≤ 9223372036854775807) :
    Calls Tryz.prog 55 #[.string s, .int .i64 n] w fun e w' => e = .returned (.string (few s n)) ∧ w = w' := by
  by_cases h : s.size ≤ n
  · have HF : Hid (few s n = s) := by unfold few; exact if_pos h
    go_enter Tryz.func55, Tryz.ntmps55
    go_wp2
    go_ret
    exact ⟨ret_str HF.out.symm, rfl⟩
  · have HF : Hid (few s n = s.extract 0 n) := by unfold few; exact if_neg h
    go_enter Tryz.func55, Tryz.ntmps55
    go_wp2
    go_ret
    exact ⟨ret_str HF.out.symm, rfl⟩

/-- 0: they are alike -/
def sameI (l1 l2 : List ByteArray) : Int := if l1 = l2 then 0 else -1
theorem toList_ne {x y : ByteArray} (h : ¬ x = y) : (!x.toList == y.toList) = true := by
  have : ¬ x.toList = y.toList := fun e => h (by
    rw [ba_toList, ba_toList] at e
    exact ByteArray.ext (Array.toList_inj.1 e))
  simp [this]

set_option maxHeartbeats 400000 in
set_option maxRecDepth 100000 in
theorem same_any (a1 a2 : Option Addr) (c1 c2 : Nat) (l1 l2 : List ByteArray) (w : World) (h1 : StrsA w w.heap.size a1 l1) (h2 : StrsA w w.heap.size a2 l2) (hl1 : l1.length ≤ 1000000) (_hl2 : l2.length ≤ 1000000) :
    Calls Tryz.prog 27 #[.slice a1 l1.length c1, .slice a2 l2.length c2] w fun e w' => e = .returned (.int .i64 (sameI l1 l2)) ∧ ∃ n, w' = w.drewN n := by
  by_cases hlen : l1.length = l2.length
  · have HX : Hid (∀ j (hj : j < l1.length) (hj2 : j < l2.length), ∃ g1 o1 g2 o2, a1 = some ⟨g1, o1, none⟩ ∧ a2 = some ⟨g2, o2, none⟩ ∧ w.cell? ⟨g1, o1 + j, none⟩ = some (.string l1[j]) ∧ w.cell? ⟨g2, o2 + j, none⟩ = some (.string l2[j])) := by
      intro j hj hj2
      obtain ⟨g1, o1, r1, _, s1⟩ := h1 (by omega)
      obtain ⟨g2, o2, r2, _, s2⟩ := h2 (by omega)
      exact ⟨g1, o1, g2, o2, r1, r2, s1 j _ (List.getElem?_eq_getElem hj), s2 j _ (List.getElem?_eq_getElem hj2)⟩
    clear h1 h2
    go_enter Tryz.func27, Tryz.ntmps27
    go_wp2
    go_loopw [13] (fun i wr => ∃ k : Nat, k ≤ l1.length ∧ i = .int .i64 k ∧ l1.take k = l2.take k ∧ ∃ n, wr = w.drewN n) (fun i _ => l1.length - (intOf i).toNat)
    case atStart => exact ⟨0, Nat.zero_le _, rfl, rfl, 0, rfl⟩
    case round =>
      obtain ⟨k, hk, rfl, htk, nd, rfl⟩ := hrel
      have HT := Lib.hid htk
      clear htk
      by_cases hlt : k < l1.length
      · obtain ⟨g1, o1, g2, o2, rfl, rfl, q1, q2⟩ := HX.out k hlt (by omega)
        have q1 : (w.drewN nd).cell? ⟨g1, o1 + k, none⟩ = some (.string l1[k]) := q1
        have q2 : (w.drewN nd).cell? ⟨g2, o2 + k, none⟩ = some (.string (l2[k]'(by omega))) := q2
        have hlt2 : k < l2.length := by omega
        have HY : Hid (l1.take (k + 1) = l1.take k ++ [l1[k]] ∧ l2.take (k + 1) = l2.take k ++ [l2[k]]) := ⟨List.take_succ_eq_append_getElem hlt, List.take_succ_eq_append_getElem hlt2⟩
        have HG : Hid (∀ x y, l1[k]? = some x → l2[k]? = some y → x ≠ y → ¬ l1 = l2) := by
          intro x y hx hy hxy he
          rw [he, hy] at hx; injection hx with hx; exact hxy hx.symm
        have HG1 := Lib.hid (List.getElem?_eq_getElem hlt)
        have HG2 := Lib.hid (List.getElem?_eq_getElem hlt2)
        generalize l1[k] = x at *
        generalize l2[k] = y at *
        by_cases hxy : x = y
        · subst hxy
          go_wp2
          go_quiet (fail)
          go_wp2
          go_roundw
          case rel => exact ⟨k + 1, by omega, by go_num, by rw [HY.out.1, HY.out.2, HT.out], nd + nq, rfl⟩
          case measure => simp [intOf]; omega
        · have hxy2 := toList_ne hxy
          have HN := Lib.hid (HG.out x y HG1.out HG2.out hxy)
          go_wp2
          go_quiet (fail)
          go_wp2
          go_ret
          exact ⟨ret_int (by unfold sameI; rw [if_neg HN.out]), nd + nq, World.drewN_drewN ..⟩
      · obtain rfl : k = l1.length := by omega
        have HN := Lib.hid (show l1 = l2 by
          have := HT.out
          rw [List.take_of_length_le (Nat.le_refl _), List.take_of_length_le (by omega)] at this; exact this)
        go_wp2
        go_ret
        exact ⟨ret_int (by unfold sameI; rw [if_pos HN.out]), nd, rfl⟩
  · have HN := Lib.hid (show ¬ l1 = l2 from fun h => hlen (by rw [h]))
    clear h1 h2
    go_enter Tryz.func27, Tryz.ntmps27
    go_wp2
    go_ret
    exact ⟨ret_int (by unfold sameI; rw [if_neg HN.out]), 0, rfl⟩
end Go.Proofs.YtpeepdkeicgkiaaGreatDoor
namespace Go.Proofs.YtpeepdkeicgkiaaGreatDoor
set_option linter.unusedVariables false
set_option linter.unusedSimpArgs false
set_option linter.unusedSectionVars false
open Go.RowKit Go.Maps Go.ChangeShapes Go.WideShapes Go.ChangeAt Go.Deep

/-- a call of the disk's laws -/
structure Op14 where
  kind : Int
  src : ByteArray
  dst : ByteArray
  at' : Int
  kv : Value
  ks : List Int
def Op14.cells (x : Op14) : Array Value := #[.int .i64 x.kind, .string x.src, .string x.dst, .int .i64 x.at', x.kv]
structure Op14Ok (W : World) (x : Op14) : Prop where
  src : x.src.size ≤ 9223372036854775807
  dst : x.dst.size ≤ 9223372036854775807
  at' : -9223372036854775808 ≤ x.at' ∧ x.at' ≤ 9223372036854775807
  row : RowInt W x.kv x.ks
  kok : KeepsOk x.ks
  few : x.ks.length ≤ 17592186044416
  shp : (∃ ad n c, x.kv = .slice (some ad) n c) ∨ x.kv = .slice none 0 0
def dkDo (D : Dk) (x : Op14) : Dk × Int :=
  if x.kind = 1 then D.append x.src (few x.dst 60) else
  if x.kind = 2 then D.sync x.src else
  if x.kind = 3 then D.rename x.src x.dst else
  if x.kind = 4 then D.remove x.src else
  if x.kind = 5 then D.settle else
  if x.kind = 6 then (D.armed x.at', 0) else
  if x.kind = 7 then D.spoil x.src x.at' (UInt8.ofNat x.dst.size) else
  if x.kind = 8 then (D.crash x.ks, 0) else (D, 0)

set_option maxRecDepth 100000 in
/-- a row of numbers, out of a field -/
theorem ints_sized {H : Type} {enc : TypeId × Value → H} {W : World} {base' : Nat} {v : Value} {n : Nat} {y : DataW H × List MemPlace} (h : DataW.trod enc Tryz.prog W base' (fun _ => true) true n 48 [v] = some y) (hwt : ∀ n ∈ y.1.weights Tryz.prog 48, n ≤ reachBytes) : ∃ ks, RowInt W v ks ∧ KeepsOk ks ∧ ks.length ≤ 17592186044416 ∧ ((∃ ad n c, v = .slice (some ad) n c) ∨ v = .slice none 0 0) := by
  rcases open_ints Tryz.underlying48 Tryz.underlying3 (by kernel_rfl) h with ⟨hcs, _⟩ | ⟨x, len0, cap0, zs, hcs, _, hl, hm, hz, hy0, hcell, hwz⟩
  · simp at hcs
    subst hcs
    exact ⟨[], Or.inl ⟨⟨_, _, rfl⟩, rfl⟩, ⟨by decide, fun x hx => by simp at hx⟩, by decide, Or.inr rfl⟩
  · simp at hcs
    subst hcs
    simp only [if_true] at hz
    have hlen : (zs.take len0).length = len0 := by rw [List.length_take]; omega
    have hsm : len0 ≤ 17592186044416 := by
      have h1 := hwt ((len0 + (zs.length - len0)) * 8) (by
        rw [hy0]
        simp only [DataW.weights, Tryz.underlying48]
        refine List.mem_cons.2 (Or.inl ?_)
        have hb : Tryz.prog.bytesOf 3 = 8 := by kernel_rfl
        rw [hb]
        simp only [lits, List.length_map, hlen, List.length_drop])
      unfold reachBytes at h1
      omega
    refine ⟨zs.take len0, ?_, ⟨by rw [hlen]; simp only [maxLen] at hm; omega, fun x hx => ?_⟩, by rw [hlen]; exact hsm, Or.inl ⟨_, _, _, rfl⟩⟩
    · by_cases h0 : len0 = 0
      · subst h0
        exact Or.inl ⟨⟨_, _, rfl⟩, by simp⟩
      · have hsp := World.cell?_spot (hcell 0 (by omega))
        have hsp' : x.spot = none := by
          unfold Addr.add at hsp; simpa using hsp
        refine Or.inr ⟨x.block, x.off, cap0, ?_, fun j hj => ?_⟩
        · rw [hlen]
          obtain ⟨g, o, s⟩ := x
          simp only at hsp'
          subst hsp'; rfl
        · rw [hlen] at hj
          have hc := hcell j (by omega)
          rw [addr_addx x hsp'] at hc
          rw [hc, List.getElem_take, List.getD, List.getElem?_eq_getElem (by omega)]; rfl
    · have h1 := hwz x (List.mem_of_mem_take hx)
      have h2 : (decide (IntKind.i64.min ≤ x) && decide (x ≤ IntKind.i64.max)) = true := h1
      simp only [Bool.and_eq_true, decide_eq_true_eq] at h2
      have e1 : IntKind.i64.min = -9223372036854775808 := by decide
      have e2 : IntKind.i64.max = 9223372036854775807 := by decide
      omega
/-- a row of calls that came in -/
def OpsP (w : World) (v : Value) (l : List Op14) : Prop := RowS w 5 (fun cs x => cs = x.cells ∧ Op14Ok w x) v l
set_option maxRecDepth 100000 in
theorem ops_in {H : Type} {enc : TypeId × Value → H} {W : World} {base base' : Nat} {v : Value} {d : DataW H} {p : List MemPlace} (hv : Value.okWide Tryz.prog W .any base 52 v) (h : DataW.Trod enc Tryz.prog W base' (fun _ => true) true 52 v d p) (hwt : ∀ n ∈ d.weights Tryz.prog 52, n ≤ reachBytes) : ∃ l, OpsP W v l := by
  obtain ⟨fuel, hf⟩ := h
  rw [okWide_cells Tryz.underlying52 hv] at hf
  obtain ⟨l, hl, _⟩ := rows_sized (fs := _) (fun cs x => cs = x.cells ∧ Op14Ok W x) Tryz.underlying52 Tryz.underlying57 (by decide) (by kernel_rfl) (by kernel_rfl) hf hwt fun cs hs hf => by
    obtain ⟨u0, n0, y0, h0, t0, g0⟩ := hf 0 _ rfl
    obtain ⟨u1, n1, y1, h1, t1, g1⟩ := hf 1 _ rfl
    obtain ⟨u2, n2, y2, h2, t2, g2⟩ := hf 2 _ rfl
    obtain ⟨u3, n3, y3, h3, t3, g3⟩ := hf 3 _ rfl
    obtain ⟨u4, n4, y4, h4, t4, g4⟩ := hf 4 _ rfl
    obtain ⟨b0, rfl, _, _⟩ := int_trod Tryz.underlying3 t0
    obtain ⟨b1, rfl, z1⟩ := string_sized Tryz.underlying9 t1 g1
    obtain ⟨b2, rfl, z2⟩ := string_sized Tryz.underlying9 t2 g2
    obtain ⟨b3, rfl, z3⟩ := int_trod Tryz.underlying3 t3
    obtain ⟨ks, r1, r2, r3, r4⟩ := ints_sized t4 g4
    exact ⟨⟨b0, b1, b2, b3, u4, ks⟩, arr5 hs h0 h1 h2 h3 h4, by show b1.size ≤ _; omega, by show b2.size ≤ _; omega, z3, r1, r2, r3, r4⟩
  exact ⟨l, hl⟩

theorem infoInt : (Tryz.prog.info? 3).map (fun i => (i.zero, i.size, i.bytes)) = some (some (.int .i64 0), 1, 8) := by kernel_rfl
theorem rowInt_own {w : World} {base n : Nat} {v : Value} {ks : List Int} (h : w.ownsRow base 3 1 v n (ks.map (.int .i64))) : RowInt w v ks := by
  have hl := h.1
  simp at hl
  rcases h.2 with ⟨h1, h2⟩ | ⟨g, cap, cur, hv, _⟩
  · exact Or.inl ⟨⟨_, _, by rw [h1]⟩, List.length_eq_zero_iff.1 (by omega)⟩
  · by_cases h0 : ks = []
    · subst h0
      simp at hl
      subst hl
      exact Or.inl ⟨⟨_, _, hv⟩, rfl⟩
    · refine Or.inr ⟨g, 0, cap, by rw [hv, hl], fun j hj => ?_⟩
      subst hv
      have := own_cell (j := j) (u := .int .i64 ks[j]) h (by simp [List.getElem?_eq_getElem hj])
      have hadd : (⟨g, 0, none⟩ : Addr).add j = ⟨g, 0 + j, none⟩ := by unfold Addr.add; split <;> simp_all
      rw [hadd] at this; exact this
/-- append([]int{}, l...) -/
theorem wpList_appInts {w : World} {ops : Array Oper} {rest : List Oper} {o : Oper} {a : Act} {Q : Exit → Act → World → Prop} (hgd : o.guard = none) (s x : Operand)
    (ho : o.op = .call { callee := .builtin .append, args := #[s, x], argTypes := #[48, 48] }) (base : Nat) (v : Value) (hs : a.eval s = v) (hown : w.ownsRow base 3 1 v 0 [])
    (u : Value) (ks : List Int) (hx : a.eval x = u) (hrow : RowInt w u ks) (hfew : ks.length ≤ 17592186044416) (hshp : (∃ ad n c, u = .slice (some ad) n c) ∨ u = .slice none 0 0) (hbase : base ≤ w.heap.size)
    (h : ∀ v' w', RowInt w' v' ks → w.grownBy w' v.ownBlock → Below base w w' → wpList Tryz.prog ops Q rest (a.put o.dst v') w') :
    wpList Tryz.prog ops Q (o :: rest) a w := by
  obtain ⟨i0, hi, hz0, hz1, hz2⟩ := info_parts infoInt
  rcases hshp with ⟨ad, n, c, rfl⟩ | rfl
  · have hnc : n = ks.length ∧ ∀ j (hj : j < ks.length), w.cell? (ad.add j) = some (.int .i64 ks[j]) := by
      rcases hrow with ⟨⟨a, c, h1⟩, h2⟩ | ⟨b, o, c, h1, h2⟩
      · injection h1 with _ h1 _
        subst h2
        exact ⟨h1, fun j hj => by simp at hj⟩
      · injection h1 with h1 h3 _
        have h1 := Option.some.inj h1
        subst h1
        exact ⟨h3, fun j hj => by rw [addr_addx _ rfl]; exact h2 j hj⟩
    obtain ⟨rfl, hc⟩ := hnc
    refine wpList_append_own_at _ hgd s x 48 ho base 3 i0 (.int .i64 0) 1 8 Tryz.underlying48 hi hz0 hz1 hz2 rfl (by decide) v 0 [] hs hown ad ks.length c (ks.map (.int .i64)) hx (by simp) ?_ (fun y hy => by obtain ⟨r, _, rfl⟩ := List.mem_map.1 hy; rfl) (by unfold maxLen; omega) (by omega) hbase ?_
    · intro j y hj
      have hj' : j < ks.length := by have := (List.getElem?_eq_some_iff.1 hj).1; simpa using this
      rw [hc j hj']
      simpa [List.getElem?_eq_getElem hj'] using hj
    · intro v' w' a1 a2 _ _
      rw [Nat.zero_add, List.nil_append] at a1
      exact h v' w' (rowInt_own a1) a2 (below_grown (Below.refl base w) hbase hown a2)
  · have hks : ks = [] := by
      rcases hrow with ⟨_, h2⟩ | ⟨b, o, c, h1, _⟩
      · exact h2
      · simp at h1
    subst hks
    refine wpList_append_own_none hgd s x 48 ho base 3 i0 1 Tryz.underlying48 hi v 0 [] hs hown hx ?_
    exact h v w (rowInt_own hown) ⟨rfl, rfl, rfl, Nat.le_refl _, fun _ _ _ => rfl⟩ (Below.refl _ _)

theorem own_empty (w : World) (o : Obj) : ((w.alloc o).alloc (.cells #[] 3)).ownsRow w.heap.size 3 1 (.slice (some ⟨w.heap.size + 1, 0, none⟩) 0 0) 0 [] := by
  have h := World.ownsRow_lit (base := w.heap.size) (size := 1) (e := 3) (w.alloc o) #[] 0 (by simp) (by decide) rfl
  simpa using h

set_option maxRecDepth 100000 in
set_option maxHeartbeats 6400000 in
theorem do_any (b : Nat) (D : Dk) (L : Lay) (x : Op14) (w : World) (h : DiskAt w b D L) (hx : Op14Ok w x) (hsm : D.small 400000) :
    Calls Tryz.prog 21 #[.pointer (some ⟨b, 0, none⟩), .agg x.cells] w fun e w' => e = .returned (.int .i64 (dkDo D x).2) ∧ DkPost b L (dkDo D x).1 w w' := by
  obtain ⟨kind, src, dst, at', kv, ks⟩ := x
  obtain ⟨z1, z2, z3, hrow, hkok, hfew, hshp⟩ := hx
  simp only at z1 z2 z3 hrow hkok hfew hshp
  have hsh : ∃ ka kn kc, kv = .slice ka kn kc := by
    rcases hshp with ⟨_, _, _, h⟩ | h
    · exact ⟨_, _, _, h⟩
    · exact ⟨_, _, _, h⟩
  obtain ⟨ka, kn, kc, rfl⟩ := hsh
  have HB := Lib.hid (fun (W : World) (D' : Dk) (w' : World) (hb : Below w.heap.size w W) (hp : DkPost b L D' W w') => (DkPost.trans (Touch.of_below _ hb) (fun k hk => Or.inl hk) hp : DkPost b L D' w w'))
  have HH := Lib.hid fun W (hb : Below w.heap.size w W) => h.below hb
  have HS := Lib.hid hsm
  have HROW := Lib.hid hrow
  have HSHP := Lib.hid hshp
  have hbx : ∀ o : Obj, Below w.heap.size w (w.alloc o) := fun o => (Below.refl _ _).alloc (Nat.le_refl _) o
  have HBX := Lib.hid hbx
  unfold Op14.cells
  simp only
  clear h hsm hrow hshp hbx
  by_cases h1 : kind = 1
  · subst h1
    have e : dkDo D ⟨1, src, dst, at', .slice ka kn kc, ks⟩ = D.append src (few dst 60) := rfl
    rw [e]
    have hfz := few_sizeB dst 60
    have HF := Lib.hid fun W => few_any dst 60 W z2
    have HC := Lib.hid fun W (hb : Below w.heap.size w W) => append_any b D L src (few dst 60) W (HH.out W hb) z1 (by omega) (Nat.le_trans HS.out.1 (by decide)) (Nat.le_trans HS.out.2 (by decide))
    clear e
    generalize D.append src (few dst 60) = r at *
    generalize few dst 60 = d60 at *
    go_enter Tryz.func21, Tryz.ntmps21
    go_wp2_with fail
    go_region_with (first
      | (go_at_call 55; refine (HF.out _).mono ?_; rintro e w3 ⟨rfl, rfl⟩)
      | (go_at_call 54; refine (HC.out _ ?_).mono ?_; (first | exact HBX.out _ | exact (HBX.out _).drew | exact (HBX.out _).trans (Below.drewN_reflS _)); rintro e w4 ⟨rfl, hp4⟩; have hp5 := HB.out _ _ _ (by (first | exact HBX.out _ | exact (HBX.out _).drew | exact (HBX.out _).trans (Below.drewN_reflS _))) hp4))
    all_goals
      go_wp2
      go_ret
      exact ⟨rfl, hp5⟩
  by_cases h2 : kind = 2
  · subst h2
    have e : dkDo D ⟨2, src, dst, at', .slice ka kn kc, ks⟩ = D.sync src := rfl
    rw [e]
    have HC := Lib.hid fun W (hb : Below w.heap.size w W) => sync_any b D L src W (HH.out W hb) z1
    clear e
    generalize D.sync src = r at *
    go_enter Tryz.func21, Tryz.ntmps21
    go_wp2_with fail
    refine (HC.out _ (HBX.out _)).mono ?_
    rintro e w4 ⟨rfl, hp4⟩
    have hp5 := Lib.hid (HB.out _ _ _ (HBX.out _) hp4)
    clear hp4
    go_wp2
    go_ret
    exact ⟨rfl, hp5.out⟩
  by_cases h3 : kind = 3
  · subst h3
    have e : dkDo D ⟨3, src, dst, at', .slice ka kn kc, ks⟩ = D.rename src dst := rfl
    rw [e]
    have HC := Lib.hid fun W (hb : Below w.heap.size w W) => rename_any b D L src dst W (HH.out W hb) z1 z2 (Nat.le_trans HS.out.2 (by decide)) (Nat.le_trans HS.out.1 (by decide))
    clear e
    generalize D.rename src dst = r at *
    go_enter Tryz.func21, Tryz.ntmps21
    go_wp2_with fail
    refine (HC.out _ (HBX.out _)).mono ?_
    rintro e w4 ⟨rfl, hp4⟩
    have hp5 := Lib.hid (HB.out _ _ _ (HBX.out _) hp4)
    clear hp4
    go_wp2
    go_ret
    exact ⟨rfl, hp5.out⟩
  by_cases h4 : kind = 4
  · subst h4
    have e : dkDo D ⟨4, src, dst, at', .slice ka kn kc, ks⟩ = D.remove src := rfl
    rw [e]
    have HC := Lib.hid fun W (hb : Below w.heap.size w W) => remove_any b D L src W (HH.out W hb) z1 (Nat.le_trans HS.out.2 (by decide))
    clear e
    generalize D.remove src = r at *
    go_enter Tryz.func21, Tryz.ntmps21
    go_wp2_with fail
    refine (HC.out _ (HBX.out _)).mono ?_
    rintro e w4 ⟨rfl, hp4⟩
    have hp5 := Lib.hid (HB.out _ _ _ (HBX.out _) hp4)
    clear hp4
    go_wp2
    go_ret
    exact ⟨rfl, hp5.out⟩
  by_cases h5 : kind = 5
  · subst h5
    have e : dkDo D ⟨5, src, dst, at', .slice ka kn kc, ks⟩ = D.settle := rfl
    rw [e]
    have HC := Lib.hid fun W (hb : Below w.heap.size w W) => settle_any b D L W (HH.out W hb)
    clear e
    generalize D.settle = r at *
    go_enter Tryz.func21, Tryz.ntmps21
    go_wp2_with fail
    refine (HC.out _ (HBX.out _)).mono ?_
    rintro e w4 ⟨rfl, hp4⟩
    have hp5 := Lib.hid (HB.out _ _ _ (HBX.out _) hp4)
    clear hp4
    go_wp2
    go_ret
    exact ⟨rfl, hp5.out⟩
  by_cases h6 : kind = 6
  · subst h6
    have e : dkDo D ⟨6, src, dst, at', .slice ka kn kc, ks⟩ = (D.armed at', 0) := rfl
    rw [e]
    have HC := Lib.hid fun W (hb : Below w.heap.size w W) => arm_any b D L at' W (HH.out W hb) z3.2
    clear e
    generalize D.armed at' = r at *
    go_enter Tryz.func21, Tryz.ntmps21
    go_wp2_with fail
    refine (HC.out _ (HBX.out _)).mono ?_
    rintro e w4 ⟨rfl, hp4⟩
    have hp5 := Lib.hid (HB.out _ _ _ (HBX.out _) hp4)
    clear hp4
    go_wp2
    go_ret
    exact ⟨rfl, hp5.out⟩
  by_cases h7 : kind = 7
  · subst h7
    have e : dkDo D ⟨7, src, dst, at', .slice ka kn kc, ks⟩ = D.spoil src at' (UInt8.ofNat dst.size) := rfl
    rw [e]
    have hc8 : ((UInt8.ofNat dst.size).toNat : Int) = (dst.size : Int) % 256 := by rw [UInt8.toNat_ofNat']; omega
    have HC := Lib.hid fun W (hb : Below w.heap.size w W) => spoil_any b D L src at' (UInt8.ofNat dst.size) W (HH.out W hb) z1
    rw [hc8] at HC
    clear e hc8
    generalize D.spoil src at' (UInt8.ofNat dst.size) = r at *
    go_enter Tryz.func21, Tryz.ntmps21
    go_wp2_with fail
    refine (HC.out _ (HBX.out _)).mono ?_
    rintro e w4 ⟨rfl, hp4⟩
    have hp5 := Lib.hid (HB.out _ _ _ (HBX.out _) hp4)
    clear hp4
    go_wp2
    go_ret
    exact ⟨rfl, hp5.out⟩
  by_cases h8 : kind = 8
  · subst h8
    have e : dkDo D ⟨8, src, dst, at', .slice ka kn kc, ks⟩ = (D.crash ks, 0) := rfl
    rw [e]
    have HC := Lib.hid fun W v (hb : Below w.heap.size w W) (hr : RowInt W v ks) => crash_any b D L ks v W (HH.out W hb) hr hkok.1 hkok.2 HS.out.2 HS.out.1
    have HOWN := Lib.hid fun (o : Obj) => (own_empty w o : ((w.alloc o).alloc (.cells #[] 3)).ownsRow w.heap.size 3 1 (.slice (some ⟨w.heap.size + 1, 0, none⟩) 0 0) 0 [])
    have HB2 := Lib.hid fun (o o2 : Obj) => (((Below.refl _ w).alloc (Nat.le_refl _) o).alloc (by simp) o2 : Below w.heap.size w ((w.alloc o).alloc o2))
    have HSZ := Lib.hid fun (o o2 : Obj) => (by simp; omega : w.heap.size ≤ ((w.alloc o).alloc o2).heap.size)
    clear e
    generalize D.crash ks = r at *
    go_enter Tryz.func21, Tryz.ntmps21
    go_wp2_with (at_builtin; refine wpList_appInts rfl _ _ rfl w.heap.size _ rfl (HOWN.out _) _ ks rfl (HROW.out.below (HB2.out _ _)) hfew HSHP.out (HSZ.out _ _) ?_; intro v8 w8 hr8 hg8 hb8)
    have hb9 : Below w.heap.size w w8 := (HB2.out _ _).trans hb8
    go_wp2_with fail
    refine (HC.out _ _ hb9 hr8).mono ?_
    rintro e w4 ⟨rfl, hp4⟩
    have hp5 := Lib.hid (HB.out _ _ _ hb9 hp4)
    clear hp4
    go_wp2
    go_ret
    exact ⟨rfl, hp5.out⟩
  have e : dkDo D ⟨kind, src, dst, at', .slice ka kn kc, ks⟩ = (D, 0) := by
    unfold dkDo
    simp only
    rw [if_neg h1, if_neg h2, if_neg h3, if_neg h4, if_neg h5, if_neg h6, if_neg h7, if_neg h8]
  rw [e]
  have hp5 := Lib.hid (HB.out w D _ (Below.refl _ _) (dkSame (HH.out w (Below.refl _ _)) (Touch.refl _ _)))
  have q1 : (kind == 1) = false := by simpa using h1
  have q2 : (kind == 2) = false := by simpa using h2
  have q3 : (kind == 3) = false := by simpa using h3
  have q4 : (kind == 4) = false := by simpa using h4
  have q5 : (kind == 5) = false := by simpa using h5
  have q6 : (kind == 6) = false := by simpa using h6
  have q7 : (kind == 7) = false := by simpa using h7
  have q8 : (kind == 8) = false := by simpa using h8
  have hp6 := Lib.hid fun o => (DkPost.of ((HH.out w (Below.refl _ _)).below (HBX.out o)) (HBX.out o) : DkPost b L D w (w.alloc o))
  clear e h1 h2 h3 h4 h5 h6 h7 h8 hp5
  go_enter Tryz.func21, Tryz.ntmps21
  go_wp2
  go_ret
  exact ⟨rfl, hp6.out _⟩
end Go.Proofs.YtpeepdkeicgkiaaGreatDoor
namespace Go.Proofs.YtpeepdkeicgkiaaGreatDoor
set_option linter.unusedVariables false
set_option linter.unusedSimpArgs false
set_option linter.unusedSectionVars false
open Go.RowKit Go.Maps Go.Shelf Go.Lib Go.Sort

/-- what any calls leave small -/
structure SzI (k z : Nat) (D : Dk) : Prop where
  fs : ∀ f ∈ D.files, f.data.size ≤ z
  fo : D.folder.length ≤ k
  st : D.sure.length + D.steps.length ≤ k
  fl : D.files.length ≤ k
theorem SzI.next {k z : Nat} {D : Dk} (h : SzI k z D) : SzI (k + 1) (z + 60) D :=
  ⟨fun f hf => Nat.le_trans (h.fs f hf) (Nat.le_add_right _ _), Nat.le_succ_of_le h.fo, Nat.le_succ_of_le h.st, Nat.le_succ_of_le h.fl⟩
theorem SzI.at' {k z : Nat} {D : Dk} (h : SzI k z D) (i : Nat) : (D.flAt i).data.size ≤ z := by
  unfold Dk.flAt List.getD
  cases hf : D.files[i]? with
  | none => simp
  | some f => exact h.fs f (List.mem_of_getElem? hf)
theorem SzI.setF {k z : Nat} {D : Dk} (h : SzI k z D) (i : Nat) (f : Fl) (hf : f.data.size ≤ z + 60) : SzI (k + 1) (z + 60) { D with files := D.files.set i f } :=
  ⟨fun g hg => by
    rcases List.mem_or_eq_of_mem_set hg with hg | rfl
    · have := h.fs g hg; omega
    · exact hf, Nat.le_succ_of_le h.fo, Nat.le_succ_of_le h.st, by have := h.fl; simp; omega⟩
theorem SzI.arm {k z : Nat} {D : Dk} (h : SzI k z D) (a : Int) (d : Bool) : SzI k z { D with arm := a, dead := d } := ⟨h.fs, h.fo, h.st, h.fl⟩
theorem SzI.crash {k z : Nat} {D : Dk} (h : SzI k z D) (ks : List Int) : SzI k z (D.crash ks) := by
  have hl : (D.leftNames ks).length ≤ k := by
    unfold Dk.leftNames
    rw [kvNames_len]
    have := D.leftAt_len ks D.steps.length
    have := h.st
    unfold Dk.left; omega
  have hf := D.newFolder_len ks (D.leftNames ks).length
  refine ⟨?_, ?_, ?_, ?_⟩
  · intro f hf
    obtain ⟨i, _, rfl⟩ := List.mem_map.1 (show f ∈ (List.range _).map _ from hf)
    unfold Dk.leftFile
    dsimp only
    rw [ByteArray.size_extract]
    have := h.at' ((kvGet (D.left ks) ((D.leftNames ks).getD i ByteArray.empty)).getD 0)
    omega
  · show (D.newFolder ks (D.leftNames ks).length).length ≤ _; omega
  · show (D.newFolder ks (D.leftNames ks).length).length + 0 ≤ _; omega
  · rw [crash_files]; omega
theorem SzI.do' {k z : Nat} {D : Dk} (h : SzI k z D) (x : Op14) : SzI (k + 1) (z + 60) (dkDo D x).1 := by
  have ha : SzI k z D.alive := h.arm _ _
  unfold dkDo
  split
  · unfold Dk.append
    split
    · exact ha.next
    · split
      · exact ha.next
      · split
        · exact ha.next
        · unfold Dk.put
          have hf := few_sizeB x.dst 60
          split
          · next i hi =>
            refine ha.setF i _ ?_
            have := ha.at' i
            rw [ByteArray.size_append]; omega
          · refine ⟨?_, ?_, ?_, ?_⟩
            · intro f hf'
              rcases List.mem_append.1 hf' with hf' | hf'
              · have := ha.fs f hf'; omega
              · rw [List.mem_singleton.1 hf']; show (few x.dst 60).size ≤ _; omega
            · have := kvPut_len D.folder x.src D.files.length
              have := h.fo
              show (kvPut D.folder x.src D.files.length).length ≤ _; omega
            · have := h.st
              show D.sure.length + (D.steps ++ _).length ≤ _
              simp; omega
            · have := h.fl
              show (D.files ++ _).length ≤ _
              simp; omega
  · split
    · unfold Dk.sync
      split
      · exact ha.next
      · split
        · next i hi =>
          have h2 := ha.setF i { data := (D.flAt i).data, safe := (D.flAt i).data.size } (by have := h.at' i; show (D.flAt i).data.size ≤ _; omega)
          exact ⟨h2.fs, h2.fo, h2.st, h2.fl⟩
        · exact ha.next
    · split
      · unfold Dk.rename
        split
        · exact ha.next
        · split
          · split
            · exact ha.next
            · refine ⟨ha.next.fs, ?_, ?_, ha.next.fl⟩
              · have h1 := kvPut_len (kvDel D.folder x.src) x.dst
                have h2 := kvDel_len D.folder x.src
                have := h.fo
                show (kvPut (kvDel D.folder x.src) x.dst _).length ≤ _
                exact Nat.le_trans (h1 _) (Nat.succ_le_succ (Nat.le_trans h2 this))
              · have := h.st
                show D.sure.length + (D.steps ++ _).length ≤ _
                simp; omega
          · exact ha.next
      · split
        · unfold Dk.remove
          split
          · exact ha.next
          · split
            · refine ⟨ha.next.fs, ?_, ?_, ha.next.fl⟩
              · have h2 := kvDel_len D.folder x.src
                have := h.fo
                show (kvDel D.folder x.src).length ≤ _
                omega
              · have := h.st
                show D.sure.length + (D.steps ++ _).length ≤ _
                simp; omega
            · exact ha.next
        · split
          · unfold Dk.settle
            split
            · exact ha.next
            · refine ⟨ha.next.fs, ha.next.fo, ?_, ha.next.fl⟩
              have := h.fo
              show D.folder.length + 0 ≤ _
              omega
          · split
            · exact (h.arm _ _).next
            · split
              · unfold Dk.spoil
                split
                · exact h.next
                · next i hi =>
                  split
                  · exact h.next
                  · next hk =>
                    refine h.setF i _ ?_
                    have := h.at' i
                    show (spoilB (D.flAt i).data x.at'.toNat _).size ≤ _
                    rw [spoilB_size _ _ _ (by omega)]
                    omega
              · split
                · exact (h.crash _).next
                · exact h.next
/-- the disk behind so many manifests, and their files' names -/
structure B1 (k : Nat) (D : Dk) (fs : List ByteArray) : Prop where
  rest : Rest D 1048576 k k 2200
  fsz : ∀ f ∈ D.files, f.data.size ≤ 2200
  len : fs.length ≤ k
  siz : ∀ x ∈ fs, x.size = 65
theorem B1.zero : B1 0 (dkNew 1048576) [] :=
  ⟨Rest.new _ (by decide) _, fun f hf => by simp [dkNew] at hf, Nat.le_refl _, fun x hx => by cases hx⟩
theorem B1.bad {k : Nat} {D : Dk} {fs : List ByteArray} (h : B1 k D fs) {m : Man} (hg : goodM m = false) : D.pubM m = D ∧ B1 (k + 1) D fs :=
  ⟨by unfold Dk.pubM; rw [if_neg (by rw [hg]; decide)], ⟨h.rest.mono (Nat.le_succ _) (Nat.le_succ _), h.fsz, Nat.le_succ_of_le h.len, h.siz⟩⟩
theorem B1.good {k : Nat} {D : Dk} {fs : List ByteArray} (h : B1 k D fs) {m : Man} (hg : goodM (fewM m) = true) : B1 (k + 1) (D.pubM (fewM m)) (fs ++ [frontS ++ nameS (bs (manL (fewM m)))]) := by
  refine ⟨pubM_rest h.rest m, ?_, ?_, ?_⟩
  · unfold Dk.pubM
    rw [if_pos hg]
    unfold Dk.pubR
    split
    · exact h.fsz
    · intro f hf
      rcases List.mem_append.1 (show f ∈ D.files ++ [_] from hf) with hf | hf
      · exact h.fsz f hf
      · rw [List.mem_singleton.1 hf]; exact few_size hg
  · rw [List.length_append]; have := h.len; simp; omega
  · intro x hx
    rcases List.mem_append.1 hx with hx | hx
    · exact h.siz x hx
    · rw [List.mem_singleton.1 hx, ByteArray.size_append, nameS_size]; rfl
theorem B1.szi {k : Nat} {D : Dk} {fs : List ByteArray} (h : B1 k D fs) : SzI k 2200 D :=
  ⟨h.fsz, h.rest.calm.num, by rw [h.rest.sure, h.rest.steps]; exact h.rest.calm.num, h.rest.calm.fl⟩
/-- is what lies under this name spoilt? -/
def Dk.spo (D : Dk) (n : ByteArray) : Bool := !decide (frontS ++ nameS (D.read n).1 = n) || !decide ((decS (D.read n).1).2 = 0)
theorem spo_ok {D : Dk} (hd : D.dead = false) (ha : kvApart D.folder) {n : ByteArray} (hn : n ∈ kvNames D.folder) (hp : isP frontS n = true) :
    D.spo n = !D.okId (idOf n) ∧ (D.spo n = false → D.mload (idOf n) = ((decS (D.read n).1).1, 0)) := by
  obtain ⟨id, rfl, hid⟩ := isP_split hp
  rw [idOf_front]
  obtain ⟨s, hs⟩ := Option.isSome_iff_exists.1 ((has_mem ha _).2 hn)
  have hr : D.read (frontS ++ id) = (s, 0) := by rw [read_has hd, hs]; rfl
  have hl : D.load frontS (frontS ++ id) = if frontS ++ nameS s ≠ frontS ++ id then (⟨#[]⟩, 13) else (s, 0) := by
    unfold Dk.load
    rw [hr, hp, if_neg (by decide : ¬ true = false), if_neg (not_not_intro rfl : ¬ (0 : Int) ≠ 0)]
  unfold Dk.spo Dk.okId Dk.mload
  rw [hr, hl]
  clear hr hl hs hp hn hid
  generalize nameS s = dn at *
  generalize hfd : frontS ++ dn = fd at *
  generalize hfi : frontS ++ id = fi at *
  clear hfd hfi
  show (!decide (fd = fi) || !decide ((decS s).2 = 0)) = _ ∧ ((!decide (fd = fi) || !decide ((decS s).2 = 0)) = false → _ = ((decS s).1, (0 : Int)))
  by_cases h1 : fd = fi
  · rw [if_neg (not_not_intro h1), decide_eq_true h1]
    show (!true || !decide ((decS s).2 = 0)) = !decide ((if (0 : Int) ≠ 0 then (noMan, (0 : Int)) else if (decS s).2 ≠ 0 then (noMan, 13) else ((decS s).1, 0)).2 = 0) ∧ ((!true || !decide ((decS s).2 = 0)) = false → (if (0 : Int) ≠ 0 then (noMan, (0 : Int)) else if (decS s).2 ≠ 0 then (noMan, 13) else ((decS s).1, 0)) = ((decS s).1, 0))
    rw [if_neg (not_not_intro rfl : ¬ (0 : Int) ≠ 0)]
    generalize decS s = ds
    by_cases h2 : ds.2 = 0
    · rw [if_neg (not_not_intro h2), decide_eq_true h2]
      exact ⟨rfl, fun _ => rfl⟩
    · rw [if_pos h2, decide_eq_false h2]
      exact ⟨rfl, fun h => by cases h⟩
  · rw [if_pos h1, decide_eq_false h1]
    exact ⟨rfl, fun h => by cases h⟩
/-- a name that is none is told -/
theorem mload_form {D : Dk} {id : ByteArray} (h : isNameD id = false) : (D.mload id).2 = 4 := by
  unfold Dk.mload Dk.load
  rw [isP_snap, h]
  rfl
/-- what is loaded has the name that was asked for -/
theorem mload_named {D : Dk} {id : ByteArray} (h : (D.mload id).2 = 0) : nameS (encR (D.mload id).1).1 = id := by
  unfold Dk.mload at h ⊢
  generalize hq : D.load frontS (frontS ++ id) = q at *
  by_cases h1 : q.2 = 0
  · rw [if_neg (not_not_intro h1)] at h ⊢
    by_cases h2 : (decS q.1).2 = 0
    · rw [if_neg (not_not_intro h2)] at h ⊢
      obtain ⟨hg, hb⟩ := decS_back h2
      have e : encR (decS q.1).1 = (q.1, 0) := by
        unfold encR
        rw [if_pos hg, hb]
      dsimp only
      rw [e]
      dsimp only
      clear e hg hb h
      unfold Dk.load at hq
      split at hq
      · rw [← hq] at h1; exact absurd h1 (by decide)
      · split at hq
        · next h3 => rw [← hq] at h1; exact absurd h1 h3
        · split at hq
          · rw [← hq] at h1; exact absurd h1 (by decide)
          · next h4 => rw [← hq]; exact front_inj (Classical.not_not.1 h4)
    · rw [if_pos h2] at h; exact absurd h (by decide)
  · rw [if_pos h1] at h; exact absurd h h1
/-- the law's own walk over the names: those that are spoilt, and how many are good -/
def Dk.spoL (D : Dk) (l : List ByteArray) : List ByteArray := ((l.filter (isP frontS)).filter D.spo).map idOf
def Dk.okN (D : Dk) (l : List ByteArray) : Nat := ((l.filter (isP frontS)).filter fun n => !D.spo n).length
theorem spoL_succ (D : Dk) (l : List ByteArray) {k : Nat} (h : k < l.length) : D.spoL (l.take (k + 1)) = D.spoL (l.take k) ++ (if isP frontS l[k] && D.spo l[k] then [idOf l[k]] else []) := by
  unfold Dk.spoL
  rw [List.take_succ_eq_append_getElem h, List.filter_append, List.filter_append, List.map_append]
  cases h1 : isP frontS l[k] <;> cases h2 : D.spo l[k] <;> simp [h1, h2]
theorem okN_succ (D : Dk) (l : List ByteArray) {k : Nat} (h : k < l.length) : D.okN (l.take (k + 1)) = D.okN (l.take k) + (if isP frontS l[k] && !D.spo l[k] then 1 else 0) := by
  unfold Dk.okN
  rw [List.take_succ_eq_append_getElem h, List.filter_append, List.filter_append, List.length_append]
  cases h1 : isP frontS l[k] <;> cases h2 : D.spo l[k] <;> simp [h1, h2]
theorem spoL_len (D : Dk) (l : List ByteArray) : (D.spoL l).length ≤ l.length := by
  unfold Dk.spoL
  rw [List.length_map]
  exact Nat.le_trans (List.length_filter_le _ _) (List.length_filter_le _ _)
theorem okN_len (D : Dk) (l : List ByteArray) : D.okN l ≤ l.length := Nat.le_trans (List.length_filter_le _ _) (List.length_filter_le _ _)
theorem spoL_is {D : Dk} (hd : D.dead = false) (ha : kvApart D.folder) : D.spoL (kvNames D.folder) = D.bads := by
  unfold Dk.bads Dk.badsL Dk.spoL Dk.names
  rw [List.filter_map]
  congr 1
  refine List.filter_congr fun n hn => ?_
  obtain ⟨h1, h2⟩ := List.mem_filter.1 hn
  exact (spo_ok hd ha h1 h2).1
theorem okN_is {D : Dk} (hd : D.dead = false) (ha : kvApart D.folder) : D.okN (kvNames D.folder) = D.snaps.length := by
  unfold Dk.snaps Dk.goodsL Dk.okN Dk.names
  rw [sortSn_len, List.length_map, List.filter_map, List.length_map]
  congr 1
  refine List.filter_congr fun n hn => ?_
  obtain ⟨h1, h2⟩ := List.mem_filter.1 hn
  show _ = D.okId (idOf n)
  rw [(spo_ok hd ha h1 h2).1, Bool.not_not]
/-- what is listed of a good one -/
theorem snaps_has {D : Dk} (hd : D.dead = false) (ha : kvApart D.folder) {n : ByteArray} (hn : n ∈ kvNames D.folder) (hp : isP frontS n = true) (hs : D.spo n = false) :
    ∃ x ∈ D.snaps, x.id = idOf n ∧ (x.t : Int) = (decS (D.read n).1).1.time ∧ D.tagOf x.id = (decS (D.read n).1).1.tag := by
  obtain ⟨h1, h2⟩ := spo_ok hd ha hn hp
  have hl := h2 hs
  have hok : D.okId (idOf n) = true := by rw [hs] at h1; simpa using h1.symm
  refine ⟨D.snOf (idOf n), ?_, rfl, ?_, ?_⟩
  · unfold Dk.snaps sortSn Dk.goodsL Dk.names
    rw [(List.mergeSort_perm _ _).mem_iff]
    exact List.mem_map.2 ⟨idOf n, List.mem_filter.2 ⟨List.mem_map.2 ⟨n, List.mem_filter.2 ⟨hn, hp⟩, rfl⟩, hok⟩, rfl⟩
  · obtain ⟨t, h3, _, h5⟩ := mload_time hok
    rw [h5, ← h3, hl]
  · show (D.mload (idOf n)).1.tag = _
    rw [hl]
/-- the snapshots stand by time, then by name, and no two have one name -/
theorem snaps_up {D : Dk} (ha : kvApart D.folder) {p q : Nat} (hq : q < D.snaps.length) (h : p < q) : ltSn D.snaps[p] D.snaps[q] := by
  have hnd : (D.goodsL (D.names frontS)).Pairwise fun x y => x.id ≠ y.id := by
    unfold Dk.goodsL Dk.names
    rw [List.pairwise_map]
    refine List.Pairwise.filter _ ?_
    rw [List.pairwise_map]
    refine List.Pairwise.imp_of_mem ?_ ((kvNames_nodup ha).filter (isP frontS))
    intro a b h1 h2 hne e
    obtain ⟨x, rfl, _⟩ := isP_split (List.mem_filter.1 h1).2
    obtain ⟨y, rfl, _⟩ := isP_split (List.mem_filter.1 h2).2
    have e : idOf (frontS ++ x) = idOf (frontS ++ y) := e
    rw [idOf_front, idOf_front] at e
    exact hne (by rw [e])
  have hns : D.snaps.Pairwise fun x y => x.id ≠ y.id := by
    unfold Dk.snaps sortSn
    exact (List.Perm.pairwise_iff (fun h => h.symm) (List.mergeSort_perm _ _)).2 hnd
  have hp := List.pairwise_mergeSort (le := fun x y : Sn => !(ltOf cmpSn) y x) (fun a b c h1 h2 => by
    simp only [Bool.not_eq_true'] at *
    exact swoSn.ntrans c b a h2 h1) (fun a b => by
    cases h1 : (ltOf cmpSn) b a
    · simp
    · cases h2 : (ltOf cmpSn) a b
      · simp
      · exact absurd (swoSn.trans a b a h2 h1) (by rw [swoSn.irrefl]; decide)) (D.goodsL (D.names frontS))
  have h1 := List.pairwise_iff_getElem.1 hp p q (by show p < D.snaps.length; omega) hq h
  have h2 := List.pairwise_iff_getElem.1 hns p q (by omega) hq h
  have h3 : (ltOf cmpSn) D.snaps[q] D.snaps[p] = false := by
    have h4 : (!(ltOf cmpSn) D.snaps[q] D.snaps[p]) = true := h1
    rw [Bool.not_eq_true'] at h4
    exact h4
  rw [ltOf_snf] at h3
  refine Classical.byContradiction fun h4 => h2 (congrArg Sn.id (totSn D.snaps[p] D.snaps[q] ?_ ?_))
  · rw [ltOf_snf]; exact h4
  · rw [ltOf_snf]; exact h3
end Go.Proofs.YtpeepdkeicgkiaaGreatDoor
namespace Go.Proofs.YtpeepdkeicgkiaaGreatDoor
set_option linter.unusedVariables false
set_option linter.unusedSimpArgs false
set_option linter.unusedSectionVars false
open Go.RowKit

set_option maxRecDepth 100000 in
set_option maxHeartbeats 3200000 in
theorem rread_any (s : ByteArray) (w : World) (he : Env w) (hs : s.size ≤ 1099511627776) :
    Calls Tryz.prog 25 #[.string s] w fun e w' => DecPost s w e w' := by
  have HEV := Lib.hid fun W (hb : Below w.heap.size w W) => he.below hb
  have hpre := (pre_iff s).symm
  have HB0 := Lib.hid (show RB w ((w.alloc (.cells #[.int .i64 0, .string ⟨#[]⟩, .string ⟨#[]⟩, .int .i64 0, .slice none 0 0] 54)).alloc (.cells #[.int .i64 0, .string ⟨#[]⟩, .string ⟨#[]⟩, .int .i64 0, .slice none 0 0] 54)) (.int .i64 0) (.string ⟨#[]⟩) (.string ⟨#[]⟩) (.int .i64 0) from
    ⟨(Blk.new w 54 #[.int .i64 0, .string ⟨#[]⟩, .string ⟨#[]⟩, .int .i64 0, .slice none 0 0]).alloc _, by
      have := Blk.new (w.alloc (.cells #[.int .i64 0, .string ⟨#[]⟩, .string ⟨#[]⟩, .int .i64 0, .slice none 0 0] 54)) 54 #[.int .i64 0, .string ⟨#[]⟩, .string ⟨#[]⟩, .int .i64 0, .slice none 0 0]
      rw [World.size_alloc] at this
      exact this, ((Below.refl _ w).alloc (Nat.le_refl _) _).alloc (by simp) _, by simp⟩)
  clear he
  go_enter Tryz.func25, Tryz.ntmps25
  go_upto_region 2 with fail
  generalize ((w.alloc (.cells #[.int .i64 0, .string ⟨#[]⟩, .string ⟨#[]⟩, .int .i64 0, .slice none 0 0] 54)).alloc (.cells #[.int .i64 0, .string ⟨#[]⟩, .string ⟨#[]⟩, .int .i64 0, .slice none 0 0] 54)) = W at *
  have r0 : (W).cell? ⟨w.heap.size, 0, none⟩ = some (.int .i64 0) := HB0.out.1.cell 0
  have u0 : (W).frozen? ⟨w.heap.size, 0, none⟩ = false := HB0.out.1.frozen 0
  have r1 : (W).cell? ⟨w.heap.size, 1, none⟩ = some (.string ⟨#[]⟩) := HB0.out.1.cell 1
  have u1 : (W).frozen? ⟨w.heap.size, 1, none⟩ = false := HB0.out.1.frozen 1
  have r2 : (W).cell? ⟨w.heap.size, 2, none⟩ = some (.string ⟨#[]⟩) := HB0.out.1.cell 2
  have u2 : (W).frozen? ⟨w.heap.size, 2, none⟩ = false := HB0.out.1.frozen 2
  have r3 : (W).cell? ⟨w.heap.size, 3, none⟩ = some (.int .i64 0) := HB0.out.1.cell 3
  have u3 : (W).frozen? ⟨w.heap.size, 3, none⟩ = false := HB0.out.1.frozen 3
  have r4 : (W).cell? ⟨w.heap.size, 4, none⟩ = some (.slice none 0 0) := HB0.out.1.cell 4
  have u4 : (W).frozen? ⟨w.heap.size, 4, none⟩ = false := HB0.out.1.frozen 4
  have m0 : (W).cell? ⟨w.heap.size + 1, 0, none⟩ = some (.int .i64 0) := HB0.out.2.1.cell 0
  have f0 : (W).frozen? ⟨w.heap.size + 1, 0, none⟩ = false := HB0.out.2.1.frozen 0
  have m1 : (W).cell? ⟨w.heap.size + 1, 1, none⟩ = some (.string ⟨#[]⟩) := HB0.out.2.1.cell 1
  have f1 : (W).frozen? ⟨w.heap.size + 1, 1, none⟩ = false := HB0.out.2.1.frozen 1
  have m2 : (W).cell? ⟨w.heap.size + 1, 2, none⟩ = some (.string ⟨#[]⟩) := HB0.out.2.1.cell 2
  have f2 : (W).frozen? ⟨w.heap.size + 1, 2, none⟩ = false := HB0.out.2.1.frozen 2
  have m3 : (W).cell? ⟨w.heap.size + 1, 3, none⟩ = some (.int .i64 0) := HB0.out.2.1.cell 3
  have f3 : (W).frozen? ⟨w.heap.size + 1, 3, none⟩ = false := HB0.out.2.1.frozen 3
  have m4 : (W).cell? ⟨w.heap.size + 1, 4, none⟩ = some (.slice none 0 0) := HB0.out.2.1.cell 4
  have f4 : (W).frozen? ⟨w.heap.size + 1, 4, none⟩ = false := HB0.out.2.1.frozen 4
  by_cases h4 : s.size < 4
  · have HX := Lib.hid (decS_nopre (pre_short s h4))
    have hq : (s.size : Int) < 4 := by omega
    clear hpre h4
    go_wp2
    refine bodyPost_ret (v := .tuple #[.agg #[.int .i64 0, .string ⟨#[]⟩, .string ⟨#[]⟩, .int .i64 0, .slice none 0 0], .int .i64 3]) (by simp [results, Tryz.results25, go_sem, r0, r1, r2, r3, r4]) rfl ?_
    exact dec_out HX.out (below5 HB0.out.2.2.1 _ _ _ _ _)
  · have hq : ¬ (s.size : Int) < 4 := by omega
    have hq4 : (4 : Int) ≤ (s.size : Int) := by omega
    cases hp : Lib.hasPrefix s.data.toList snapL with
    | false =>
      have HX := Lib.hid (decS_nopre hp)
      rw [hp] at hpre

      clear hp h4
      go_wp2
      refine bodyPost_ret (v := .tuple #[.agg #[.int .i64 0, .string ⟨#[]⟩, .string ⟨#[]⟩, .int .i64 0, .slice none 0 0], .int .i64 3]) (by simp [results, Tryz.results25, go_sem, r0, r1, r2, r3, r4]) rfl ?_
      exact dec_out HX.out (below5 HB0.out.2.2.1 _ _ _ _ _)
    | true =>
      have HDS := Lib.hid (decS_pre hp)
      rw [hp] at hpre

      have hz0 : (s.extract 4 s.size).size ≤ 1099511627776 := by simp only [ByteArray.size_extract]; omega
      clear hp h4
      rcases h1 : numS (s.extract 4 s.size) false with ⟨x, s1, b1⟩
      have z1 := numS_le (s.extract 4 s.size) false
      rw [h1] at z1
      simp only at z1
      have T1 := Lib.hid fun W => rtake_any (s.extract 4 s.size) W (by omega)
      cases b1 with
      | true =>
        rw [tk_no h1] at T1
        have HX := Lib.hid (show decS s = (noMan, 3) by rw [HDS.out, if_pos (Or.inl (red1 h1))])
        clear  h1
        go_wp2_with fail
        refine (T1.out _).mono ?_
        rintro e w1 ⟨rfl, hb1⟩
        have HB1 := Lib.hid (HB0.out.low hb1)
        clear r0 r1 r2 r3 r4 u0 u1 u2 u3 u4 m0 m1 m2 m3 m4 f0 f1 f2 f3 f4 hb1
        have r0 : (w1).cell? ⟨w.heap.size, 0, none⟩ = some (.int .i64 0) := HB1.out.1.cell 0
        have u0 : (w1).frozen? ⟨w.heap.size, 0, none⟩ = false := HB1.out.1.frozen 0
        have r1 : (w1).cell? ⟨w.heap.size, 1, none⟩ = some (.string ⟨#[]⟩) := HB1.out.1.cell 1
        have u1 : (w1).frozen? ⟨w.heap.size, 1, none⟩ = false := HB1.out.1.frozen 1
        have r2 : (w1).cell? ⟨w.heap.size, 2, none⟩ = some (.string ⟨#[]⟩) := HB1.out.1.cell 2
        have u2 : (w1).frozen? ⟨w.heap.size, 2, none⟩ = false := HB1.out.1.frozen 2
        have r3 : (w1).cell? ⟨w.heap.size, 3, none⟩ = some (.int .i64 0) := HB1.out.1.cell 3
        have u3 : (w1).frozen? ⟨w.heap.size, 3, none⟩ = false := HB1.out.1.frozen 3
        have r4 : (w1).cell? ⟨w.heap.size, 4, none⟩ = some (.slice none 0 0) := HB1.out.1.cell 4
        have u4 : (w1).frozen? ⟨w.heap.size, 4, none⟩ = false := HB1.out.1.frozen 4
        have m0 : (w1).cell? ⟨w.heap.size + 1, 0, none⟩ = some (.int .i64 0) := HB1.out.2.1.cell 0
        have f0 : (w1).frozen? ⟨w.heap.size + 1, 0, none⟩ = false := HB1.out.2.1.frozen 0
        have m1 : (w1).cell? ⟨w.heap.size + 1, 1, none⟩ = some (.string ⟨#[]⟩) := HB1.out.2.1.cell 1
        have f1 : (w1).frozen? ⟨w.heap.size + 1, 1, none⟩ = false := HB1.out.2.1.frozen 1
        have m2 : (w1).cell? ⟨w.heap.size + 1, 2, none⟩ = some (.string ⟨#[]⟩) := HB1.out.2.1.cell 2
        have f2 : (w1).frozen? ⟨w.heap.size + 1, 2, none⟩ = false := HB1.out.2.1.frozen 2
        have m3 : (w1).cell? ⟨w.heap.size + 1, 3, none⟩ = some (.int .i64 0) := HB1.out.2.1.cell 3
        have f3 : (w1).frozen? ⟨w.heap.size + 1, 3, none⟩ = false := HB1.out.2.1.frozen 3
        have m4 : (w1).cell? ⟨w.heap.size + 1, 4, none⟩ = some (.slice none 0 0) := HB1.out.2.1.cell 4
        have f4 : (w1).frozen? ⟨w.heap.size + 1, 4, none⟩ = false := HB1.out.2.1.frozen 4
        go_wp2
        refine bodyPost_ret (v := .tuple #[.agg #[.int .i64 0, .string ⟨#[]⟩, .string ⟨#[]⟩, .int .i64 0, .slice none 0 0], .int .i64 3]) (by simp [results, Tryz.results25, go_sem, r0, r1, r2, r3, r4]) rfl ?_
        exact dec_out HX.out (below5 HB1.out.2.2.1 _ _ _ _ _)
      | false =>
        rw [tk_ok h1] at T1
        go_wp2_with fail
        refine (T1.out _).mono ?_
        rintro e w1 ⟨rfl, hb1⟩
        have HB1 := Lib.hid (HB0.out.low hb1)
        clear r0 r1 r2 r3 r4 u0 u1 u2 u3 u4 m0 m1 m2 m3 m4 f0 f1 f2 f3 f4 hb1
        have r0 : (w1).cell? ⟨w.heap.size, 0, none⟩ = some (.int .i64 0) := HB1.out.1.cell 0
        have u0 : (w1).frozen? ⟨w.heap.size, 0, none⟩ = false := HB1.out.1.frozen 0
        have r1 : (w1).cell? ⟨w.heap.size, 1, none⟩ = some (.string ⟨#[]⟩) := HB1.out.1.cell 1
        have u1 : (w1).frozen? ⟨w.heap.size, 1, none⟩ = false := HB1.out.1.frozen 1
        have r2 : (w1).cell? ⟨w.heap.size, 2, none⟩ = some (.string ⟨#[]⟩) := HB1.out.1.cell 2
        have u2 : (w1).frozen? ⟨w.heap.size, 2, none⟩ = false := HB1.out.1.frozen 2
        have r3 : (w1).cell? ⟨w.heap.size, 3, none⟩ = some (.int .i64 0) := HB1.out.1.cell 3
        have u3 : (w1).frozen? ⟨w.heap.size, 3, none⟩ = false := HB1.out.1.frozen 3
        have r4 : (w1).cell? ⟨w.heap.size, 4, none⟩ = some (.slice none 0 0) := HB1.out.1.cell 4
        have u4 : (w1).frozen? ⟨w.heap.size, 4, none⟩ = false := HB1.out.1.frozen 4
        have m0 : (w1).cell? ⟨w.heap.size + 1, 0, none⟩ = some (.int .i64 0) := HB1.out.2.1.cell 0
        have f0 : (w1).frozen? ⟨w.heap.size + 1, 0, none⟩ = false := HB1.out.2.1.frozen 0
        have m1 : (w1).cell? ⟨w.heap.size + 1, 1, none⟩ = some (.string ⟨#[]⟩) := HB1.out.2.1.cell 1
        have f1 : (w1).frozen? ⟨w.heap.size + 1, 1, none⟩ = false := HB1.out.2.1.frozen 1
        have m2 : (w1).cell? ⟨w.heap.size + 1, 2, none⟩ = some (.string ⟨#[]⟩) := HB1.out.2.1.cell 2
        have f2 : (w1).frozen? ⟨w.heap.size + 1, 2, none⟩ = false := HB1.out.2.1.frozen 2
        have m3 : (w1).cell? ⟨w.heap.size + 1, 3, none⟩ = some (.int .i64 0) := HB1.out.2.1.cell 3
        have f3 : (w1).frozen? ⟨w.heap.size + 1, 3, none⟩ = false := HB1.out.2.1.frozen 3
        have m4 : (w1).cell? ⟨w.heap.size + 1, 4, none⟩ = some (.slice none 0 0) := HB1.out.2.1.cell 4
        have f4 : (w1).frozen? ⟨w.heap.size + 1, 4, none⟩ = false := HB1.out.2.1.frozen 4
        go_upto_region 8 with fail
        have HA1 := Lib.hid (show RB w (w1.setCell ⟨w.heap.size + 1, 0, none⟩ (.int .i64 x)) (.int .i64 x) (.string ⟨#[]⟩) (.string ⟨#[]⟩) (.int .i64 0) from RB.set_ HB1.out.1 HB1.out.2.1 HB1.out.2.2.1 HB1.out.2.2.2 0 (.int .i64 x) rfl)
        clear r0 r1 r2 r3 r4 u0 u1 u2 u3 u4 m0 m1 m2 m3 m4 f0 f1 f2 f3 f4 HB1
        generalize w1.setCell ⟨w.heap.size + 1, 0, none⟩ (.int .i64 x) = W1 at *
        have r0 : (W1).cell? ⟨w.heap.size, 0, none⟩ = some (.int .i64 0) := HA1.out.1.cell 0
        have u0 : (W1).frozen? ⟨w.heap.size, 0, none⟩ = false := HA1.out.1.frozen 0
        have r1 : (W1).cell? ⟨w.heap.size, 1, none⟩ = some (.string ⟨#[]⟩) := HA1.out.1.cell 1
        have u1 : (W1).frozen? ⟨w.heap.size, 1, none⟩ = false := HA1.out.1.frozen 1
        have r2 : (W1).cell? ⟨w.heap.size, 2, none⟩ = some (.string ⟨#[]⟩) := HA1.out.1.cell 2
        have u2 : (W1).frozen? ⟨w.heap.size, 2, none⟩ = false := HA1.out.1.frozen 2
        have r3 : (W1).cell? ⟨w.heap.size, 3, none⟩ = some (.int .i64 0) := HA1.out.1.cell 3
        have u3 : (W1).frozen? ⟨w.heap.size, 3, none⟩ = false := HA1.out.1.frozen 3
        have r4 : (W1).cell? ⟨w.heap.size, 4, none⟩ = some (.slice none 0 0) := HA1.out.1.cell 4
        have u4 : (W1).frozen? ⟨w.heap.size, 4, none⟩ = false := HA1.out.1.frozen 4
        have m0 : (W1).cell? ⟨w.heap.size + 1, 0, none⟩ = some (.int .i64 x) := HA1.out.2.1.cell 0
        have f0 : (W1).frozen? ⟨w.heap.size + 1, 0, none⟩ = false := HA1.out.2.1.frozen 0
        have m1 : (W1).cell? ⟨w.heap.size + 1, 1, none⟩ = some (.string ⟨#[]⟩) := HA1.out.2.1.cell 1
        have f1 : (W1).frozen? ⟨w.heap.size + 1, 1, none⟩ = false := HA1.out.2.1.frozen 1
        have m2 : (W1).cell? ⟨w.heap.size + 1, 2, none⟩ = some (.string ⟨#[]⟩) := HA1.out.2.1.cell 2
        have f2 : (W1).frozen? ⟨w.heap.size + 1, 2, none⟩ = false := HA1.out.2.1.frozen 2
        have m3 : (W1).cell? ⟨w.heap.size + 1, 3, none⟩ = some (.int .i64 0) := HA1.out.2.1.cell 3
        have f3 : (W1).frozen? ⟨w.heap.size + 1, 3, none⟩ = false := HA1.out.2.1.frozen 3
        have m4 : (W1).cell? ⟨w.heap.size + 1, 4, none⟩ = some (.slice none 0 0) := HA1.out.2.1.cell 4
        have f4 : (W1).frozen? ⟨w.heap.size + 1, 4, none⟩ = false := HA1.out.2.1.frozen 4
        rcases h2 : txO (s1) with ⟨t, s2, b2⟩
        have z2 := tx_le (s1)
        rw [h2] at z2
        simp only at z2
        have T2 := Lib.hid fun W => rtxt_any (s1) W (by omega)
        cases b2 with
        | true =>
          rw [tx_no h2] at T2
          have HX := Lib.hid (show decS s = (noMan, 3) by rw [HDS.out, if_pos (Or.inl (red2 h1 h2))])
          clear h1 h2
          go_wp2_with fail
          refine (T2.out _).mono ?_
          rintro e w2 ⟨rfl, hb2⟩
          have HB2 := Lib.hid (HA1.out.low hb2)
          clear r0 r1 r2 r3 r4 u0 u1 u2 u3 u4 m0 m1 m2 m3 m4 f0 f1 f2 f3 f4 hb2
          have r0 : (w2).cell? ⟨w.heap.size, 0, none⟩ = some (.int .i64 0) := HB2.out.1.cell 0
          have u0 : (w2).frozen? ⟨w.heap.size, 0, none⟩ = false := HB2.out.1.frozen 0
          have r1 : (w2).cell? ⟨w.heap.size, 1, none⟩ = some (.string ⟨#[]⟩) := HB2.out.1.cell 1
          have u1 : (w2).frozen? ⟨w.heap.size, 1, none⟩ = false := HB2.out.1.frozen 1
          have r2 : (w2).cell? ⟨w.heap.size, 2, none⟩ = some (.string ⟨#[]⟩) := HB2.out.1.cell 2
          have u2 : (w2).frozen? ⟨w.heap.size, 2, none⟩ = false := HB2.out.1.frozen 2
          have r3 : (w2).cell? ⟨w.heap.size, 3, none⟩ = some (.int .i64 0) := HB2.out.1.cell 3
          have u3 : (w2).frozen? ⟨w.heap.size, 3, none⟩ = false := HB2.out.1.frozen 3
          have r4 : (w2).cell? ⟨w.heap.size, 4, none⟩ = some (.slice none 0 0) := HB2.out.1.cell 4
          have u4 : (w2).frozen? ⟨w.heap.size, 4, none⟩ = false := HB2.out.1.frozen 4
          have m0 : (w2).cell? ⟨w.heap.size + 1, 0, none⟩ = some (.int .i64 x) := HB2.out.2.1.cell 0
          have f0 : (w2).frozen? ⟨w.heap.size + 1, 0, none⟩ = false := HB2.out.2.1.frozen 0
          have m1 : (w2).cell? ⟨w.heap.size + 1, 1, none⟩ = some (.string ⟨#[]⟩) := HB2.out.2.1.cell 1
          have f1 : (w2).frozen? ⟨w.heap.size + 1, 1, none⟩ = false := HB2.out.2.1.frozen 1
          have m2 : (w2).cell? ⟨w.heap.size + 1, 2, none⟩ = some (.string ⟨#[]⟩) := HB2.out.2.1.cell 2
          have f2 : (w2).frozen? ⟨w.heap.size + 1, 2, none⟩ = false := HB2.out.2.1.frozen 2
          have m3 : (w2).cell? ⟨w.heap.size + 1, 3, none⟩ = some (.int .i64 0) := HB2.out.2.1.cell 3
          have f3 : (w2).frozen? ⟨w.heap.size + 1, 3, none⟩ = false := HB2.out.2.1.frozen 3
          have m4 : (w2).cell? ⟨w.heap.size + 1, 4, none⟩ = some (.slice none 0 0) := HB2.out.2.1.cell 4
          have f4 : (w2).frozen? ⟨w.heap.size + 1, 4, none⟩ = false := HB2.out.2.1.frozen 4
          go_wp2
          refine bodyPost_ret (v := .tuple #[.agg #[.int .i64 0, .string ⟨#[]⟩, .string ⟨#[]⟩, .int .i64 0, .slice none 0 0], .int .i64 3]) (by simp [results, Tryz.results25, go_sem, r0, r1, r2, r3, r4]) rfl ?_
          exact dec_out HX.out (below5 (HB2.out.2.2.1.setCell (p := ⟨w.heap.size + 1, 1, none⟩) (by simp) (.string ⟨#[]⟩)) _ _ _ _ _)
        | false =>
          rw [tx_ok h2] at T2
          go_wp2_with fail
          refine (T2.out _).mono ?_
          rintro e w2 ⟨rfl, hb2⟩
          have HB2 := Lib.hid (HA1.out.low hb2)
          clear r0 r1 r2 r3 r4 u0 u1 u2 u3 u4 m0 m1 m2 m3 m4 f0 f1 f2 f3 f4 hb2
          have r0 : (w2).cell? ⟨w.heap.size, 0, none⟩ = some (.int .i64 0) := HB2.out.1.cell 0
          have u0 : (w2).frozen? ⟨w.heap.size, 0, none⟩ = false := HB2.out.1.frozen 0
          have r1 : (w2).cell? ⟨w.heap.size, 1, none⟩ = some (.string ⟨#[]⟩) := HB2.out.1.cell 1
          have u1 : (w2).frozen? ⟨w.heap.size, 1, none⟩ = false := HB2.out.1.frozen 1
          have r2 : (w2).cell? ⟨w.heap.size, 2, none⟩ = some (.string ⟨#[]⟩) := HB2.out.1.cell 2
          have u2 : (w2).frozen? ⟨w.heap.size, 2, none⟩ = false := HB2.out.1.frozen 2
          have r3 : (w2).cell? ⟨w.heap.size, 3, none⟩ = some (.int .i64 0) := HB2.out.1.cell 3
          have u3 : (w2).frozen? ⟨w.heap.size, 3, none⟩ = false := HB2.out.1.frozen 3
          have r4 : (w2).cell? ⟨w.heap.size, 4, none⟩ = some (.slice none 0 0) := HB2.out.1.cell 4
          have u4 : (w2).frozen? ⟨w.heap.size, 4, none⟩ = false := HB2.out.1.frozen 4
          have m0 : (w2).cell? ⟨w.heap.size + 1, 0, none⟩ = some (.int .i64 x) := HB2.out.2.1.cell 0
          have f0 : (w2).frozen? ⟨w.heap.size + 1, 0, none⟩ = false := HB2.out.2.1.frozen 0
          have m1 : (w2).cell? ⟨w.heap.size + 1, 1, none⟩ = some (.string ⟨#[]⟩) := HB2.out.2.1.cell 1
          have f1 : (w2).frozen? ⟨w.heap.size + 1, 1, none⟩ = false := HB2.out.2.1.frozen 1
          have m2 : (w2).cell? ⟨w.heap.size + 1, 2, none⟩ = some (.string ⟨#[]⟩) := HB2.out.2.1.cell 2
          have f2 : (w2).frozen? ⟨w.heap.size + 1, 2, none⟩ = false := HB2.out.2.1.frozen 2
          have m3 : (w2).cell? ⟨w.heap.size + 1, 3, none⟩ = some (.int .i64 0) := HB2.out.2.1.cell 3
          have f3 : (w2).frozen? ⟨w.heap.size + 1, 3, none⟩ = false := HB2.out.2.1.frozen 3
          have m4 : (w2).cell? ⟨w.heap.size + 1, 4, none⟩ = some (.slice none 0 0) := HB2.out.2.1.cell 4
          have f4 : (w2).frozen? ⟨w.heap.size + 1, 4, none⟩ = false := HB2.out.2.1.frozen 4
          go_upto_region 11 with fail
          have HA2 := Lib.hid (show RB w (w2.setCell ⟨w.heap.size + 1, 1, none⟩ (.string t)) (.int .i64 x) (.string t) (.string ⟨#[]⟩) (.int .i64 0) from RB.set_ HB2.out.1 HB2.out.2.1 HB2.out.2.2.1 HB2.out.2.2.2 1 (.string t) rfl)
          clear r0 r1 r2 r3 r4 u0 u1 u2 u3 u4 m0 m1 m2 m3 m4 f0 f1 f2 f3 f4 HB2
          generalize w2.setCell ⟨w.heap.size + 1, 1, none⟩ (.string t) = W2 at *
          have r0 : (W2).cell? ⟨w.heap.size, 0, none⟩ = some (.int .i64 0) := HA2.out.1.cell 0
          have u0 : (W2).frozen? ⟨w.heap.size, 0, none⟩ = false := HA2.out.1.frozen 0
          have r1 : (W2).cell? ⟨w.heap.size, 1, none⟩ = some (.string ⟨#[]⟩) := HA2.out.1.cell 1
          have u1 : (W2).frozen? ⟨w.heap.size, 1, none⟩ = false := HA2.out.1.frozen 1
          have r2 : (W2).cell? ⟨w.heap.size, 2, none⟩ = some (.string ⟨#[]⟩) := HA2.out.1.cell 2
          have u2 : (W2).frozen? ⟨w.heap.size, 2, none⟩ = false := HA2.out.1.frozen 2
          have r3 : (W2).cell? ⟨w.heap.size, 3, none⟩ = some (.int .i64 0) := HA2.out.1.cell 3
          have u3 : (W2).frozen? ⟨w.heap.size, 3, none⟩ = false := HA2.out.1.frozen 3
          have r4 : (W2).cell? ⟨w.heap.size, 4, none⟩ = some (.slice none 0 0) := HA2.out.1.cell 4
          have u4 : (W2).frozen? ⟨w.heap.size, 4, none⟩ = false := HA2.out.1.frozen 4
          have m0 : (W2).cell? ⟨w.heap.size + 1, 0, none⟩ = some (.int .i64 x) := HA2.out.2.1.cell 0
          have f0 : (W2).frozen? ⟨w.heap.size + 1, 0, none⟩ = false := HA2.out.2.1.frozen 0
          have m1 : (W2).cell? ⟨w.heap.size + 1, 1, none⟩ = some (.string t) := HA2.out.2.1.cell 1
          have f1 : (W2).frozen? ⟨w.heap.size + 1, 1, none⟩ = false := HA2.out.2.1.frozen 1
          have m2 : (W2).cell? ⟨w.heap.size + 1, 2, none⟩ = some (.string ⟨#[]⟩) := HA2.out.2.1.cell 2
          have f2 : (W2).frozen? ⟨w.heap.size + 1, 2, none⟩ = false := HA2.out.2.1.frozen 2
          have m3 : (W2).cell? ⟨w.heap.size + 1, 3, none⟩ = some (.int .i64 0) := HA2.out.2.1.cell 3
          have f3 : (W2).frozen? ⟨w.heap.size + 1, 3, none⟩ = false := HA2.out.2.1.frozen 3
          have m4 : (W2).cell? ⟨w.heap.size + 1, 4, none⟩ = some (.slice none 0 0) := HA2.out.2.1.cell 4
          have f4 : (W2).frozen? ⟨w.heap.size + 1, 4, none⟩ = false := HA2.out.2.1.frozen 4
          rcases h3 : txO (s2) with ⟨u, s3, b3⟩
          have z3 := tx_le (s2)
          rw [h3] at z3
          simp only at z3
          have T3 := Lib.hid fun W => rtxt_any (s2) W (by omega)
          cases b3 with
          | true =>
            rw [tx_no h3] at T3
            have HX := Lib.hid (show decS s = (noMan, 3) by rw [HDS.out, if_pos (Or.inl (red3 h1 h2 h3))])
            clear h1 h2 h3
            go_wp2_with fail
            refine (T3.out _).mono ?_
            rintro e w3 ⟨rfl, hb3⟩
            have HB3 := Lib.hid (HA2.out.low hb3)
            clear r0 r1 r2 r3 r4 u0 u1 u2 u3 u4 m0 m1 m2 m3 m4 f0 f1 f2 f3 f4 hb3
            have r0 : (w3).cell? ⟨w.heap.size, 0, none⟩ = some (.int .i64 0) := HB3.out.1.cell 0
            have u0 : (w3).frozen? ⟨w.heap.size, 0, none⟩ = false := HB3.out.1.frozen 0
            have r1 : (w3).cell? ⟨w.heap.size, 1, none⟩ = some (.string ⟨#[]⟩) := HB3.out.1.cell 1
            have u1 : (w3).frozen? ⟨w.heap.size, 1, none⟩ = false := HB3.out.1.frozen 1
            have r2 : (w3).cell? ⟨w.heap.size, 2, none⟩ = some (.string ⟨#[]⟩) := HB3.out.1.cell 2
            have u2 : (w3).frozen? ⟨w.heap.size, 2, none⟩ = false := HB3.out.1.frozen 2
            have r3 : (w3).cell? ⟨w.heap.size, 3, none⟩ = some (.int .i64 0) := HB3.out.1.cell 3
            have u3 : (w3).frozen? ⟨w.heap.size, 3, none⟩ = false := HB3.out.1.frozen 3
            have r4 : (w3).cell? ⟨w.heap.size, 4, none⟩ = some (.slice none 0 0) := HB3.out.1.cell 4
            have u4 : (w3).frozen? ⟨w.heap.size, 4, none⟩ = false := HB3.out.1.frozen 4
            have m0 : (w3).cell? ⟨w.heap.size + 1, 0, none⟩ = some (.int .i64 x) := HB3.out.2.1.cell 0
            have f0 : (w3).frozen? ⟨w.heap.size + 1, 0, none⟩ = false := HB3.out.2.1.frozen 0
            have m1 : (w3).cell? ⟨w.heap.size + 1, 1, none⟩ = some (.string t) := HB3.out.2.1.cell 1
            have f1 : (w3).frozen? ⟨w.heap.size + 1, 1, none⟩ = false := HB3.out.2.1.frozen 1
            have m2 : (w3).cell? ⟨w.heap.size + 1, 2, none⟩ = some (.string ⟨#[]⟩) := HB3.out.2.1.cell 2
            have f2 : (w3).frozen? ⟨w.heap.size + 1, 2, none⟩ = false := HB3.out.2.1.frozen 2
            have m3 : (w3).cell? ⟨w.heap.size + 1, 3, none⟩ = some (.int .i64 0) := HB3.out.2.1.cell 3
            have f3 : (w3).frozen? ⟨w.heap.size + 1, 3, none⟩ = false := HB3.out.2.1.frozen 3
            have m4 : (w3).cell? ⟨w.heap.size + 1, 4, none⟩ = some (.slice none 0 0) := HB3.out.2.1.cell 4
            have f4 : (w3).frozen? ⟨w.heap.size + 1, 4, none⟩ = false := HB3.out.2.1.frozen 4
            go_wp2
            refine bodyPost_ret (v := .tuple #[.agg #[.int .i64 0, .string ⟨#[]⟩, .string ⟨#[]⟩, .int .i64 0, .slice none 0 0], .int .i64 3]) (by simp [results, Tryz.results25, go_sem, r0, r1, r2, r3, r4]) rfl ?_
            exact dec_out HX.out (below5 (HB3.out.2.2.1.setCell (p := ⟨w.heap.size + 1, 2, none⟩) (by simp) (.string ⟨#[]⟩)) _ _ _ _ _)
          | false =>
            rw [tx_ok h3] at T3
            go_wp2_with fail
            refine (T3.out _).mono ?_
            rintro e w3 ⟨rfl, hb3⟩
            have HB3 := Lib.hid (HA2.out.low hb3)
            clear r0 r1 r2 r3 r4 u0 u1 u2 u3 u4 m0 m1 m2 m3 m4 f0 f1 f2 f3 f4 hb3
            have r0 : (w3).cell? ⟨w.heap.size, 0, none⟩ = some (.int .i64 0) := HB3.out.1.cell 0
            have u0 : (w3).frozen? ⟨w.heap.size, 0, none⟩ = false := HB3.out.1.frozen 0
            have r1 : (w3).cell? ⟨w.heap.size, 1, none⟩ = some (.string ⟨#[]⟩) := HB3.out.1.cell 1
            have u1 : (w3).frozen? ⟨w.heap.size, 1, none⟩ = false := HB3.out.1.frozen 1
            have r2 : (w3).cell? ⟨w.heap.size, 2, none⟩ = some (.string ⟨#[]⟩) := HB3.out.1.cell 2
            have u2 : (w3).frozen? ⟨w.heap.size, 2, none⟩ = false := HB3.out.1.frozen 2
            have r3 : (w3).cell? ⟨w.heap.size, 3, none⟩ = some (.int .i64 0) := HB3.out.1.cell 3
            have u3 : (w3).frozen? ⟨w.heap.size, 3, none⟩ = false := HB3.out.1.frozen 3
            have r4 : (w3).cell? ⟨w.heap.size, 4, none⟩ = some (.slice none 0 0) := HB3.out.1.cell 4
            have u4 : (w3).frozen? ⟨w.heap.size, 4, none⟩ = false := HB3.out.1.frozen 4
            have m0 : (w3).cell? ⟨w.heap.size + 1, 0, none⟩ = some (.int .i64 x) := HB3.out.2.1.cell 0
            have f0 : (w3).frozen? ⟨w.heap.size + 1, 0, none⟩ = false := HB3.out.2.1.frozen 0
            have m1 : (w3).cell? ⟨w.heap.size + 1, 1, none⟩ = some (.string t) := HB3.out.2.1.cell 1
            have f1 : (w3).frozen? ⟨w.heap.size + 1, 1, none⟩ = false := HB3.out.2.1.frozen 1
            have m2 : (w3).cell? ⟨w.heap.size + 1, 2, none⟩ = some (.string ⟨#[]⟩) := HB3.out.2.1.cell 2
            have f2 : (w3).frozen? ⟨w.heap.size + 1, 2, none⟩ = false := HB3.out.2.1.frozen 2
            have m3 : (w3).cell? ⟨w.heap.size + 1, 3, none⟩ = some (.int .i64 0) := HB3.out.2.1.cell 3
            have f3 : (w3).frozen? ⟨w.heap.size + 1, 3, none⟩ = false := HB3.out.2.1.frozen 3
            have m4 : (w3).cell? ⟨w.heap.size + 1, 4, none⟩ = some (.slice none 0 0) := HB3.out.2.1.cell 4
            have f4 : (w3).frozen? ⟨w.heap.size + 1, 4, none⟩ = false := HB3.out.2.1.frozen 4
            go_upto_region 14 with fail
            have HA3 := Lib.hid (show RB w (w3.setCell ⟨w.heap.size + 1, 2, none⟩ (.string u)) (.int .i64 x) (.string t) (.string u) (.int .i64 0) from RB.set_ HB3.out.1 HB3.out.2.1 HB3.out.2.2.1 HB3.out.2.2.2 2 (.string u) rfl)
            clear r0 r1 r2 r3 r4 u0 u1 u2 u3 u4 m0 m1 m2 m3 m4 f0 f1 f2 f3 f4 HB3
            generalize w3.setCell ⟨w.heap.size + 1, 2, none⟩ (.string u) = W3 at *
            have r0 : (W3).cell? ⟨w.heap.size, 0, none⟩ = some (.int .i64 0) := HA3.out.1.cell 0
            have u0 : (W3).frozen? ⟨w.heap.size, 0, none⟩ = false := HA3.out.1.frozen 0
            have r1 : (W3).cell? ⟨w.heap.size, 1, none⟩ = some (.string ⟨#[]⟩) := HA3.out.1.cell 1
            have u1 : (W3).frozen? ⟨w.heap.size, 1, none⟩ = false := HA3.out.1.frozen 1
            have r2 : (W3).cell? ⟨w.heap.size, 2, none⟩ = some (.string ⟨#[]⟩) := HA3.out.1.cell 2
            have u2 : (W3).frozen? ⟨w.heap.size, 2, none⟩ = false := HA3.out.1.frozen 2
            have r3 : (W3).cell? ⟨w.heap.size, 3, none⟩ = some (.int .i64 0) := HA3.out.1.cell 3
            have u3 : (W3).frozen? ⟨w.heap.size, 3, none⟩ = false := HA3.out.1.frozen 3
            have r4 : (W3).cell? ⟨w.heap.size, 4, none⟩ = some (.slice none 0 0) := HA3.out.1.cell 4
            have u4 : (W3).frozen? ⟨w.heap.size, 4, none⟩ = false := HA3.out.1.frozen 4
            have m0 : (W3).cell? ⟨w.heap.size + 1, 0, none⟩ = some (.int .i64 x) := HA3.out.2.1.cell 0
            have f0 : (W3).frozen? ⟨w.heap.size + 1, 0, none⟩ = false := HA3.out.2.1.frozen 0
            have m1 : (W3).cell? ⟨w.heap.size + 1, 1, none⟩ = some (.string t) := HA3.out.2.1.cell 1
            have f1 : (W3).frozen? ⟨w.heap.size + 1, 1, none⟩ = false := HA3.out.2.1.frozen 1
            have m2 : (W3).cell? ⟨w.heap.size + 1, 2, none⟩ = some (.string u) := HA3.out.2.1.cell 2
            have f2 : (W3).frozen? ⟨w.heap.size + 1, 2, none⟩ = false := HA3.out.2.1.frozen 2
            have m3 : (W3).cell? ⟨w.heap.size + 1, 3, none⟩ = some (.int .i64 0) := HA3.out.2.1.cell 3
            have f3 : (W3).frozen? ⟨w.heap.size + 1, 3, none⟩ = false := HA3.out.2.1.frozen 3
            have m4 : (W3).cell? ⟨w.heap.size + 1, 4, none⟩ = some (.slice none 0 0) := HA3.out.2.1.cell 4
            have f4 : (W3).frozen? ⟨w.heap.size + 1, 4, none⟩ = false := HA3.out.2.1.frozen 4
            rcases h4 : numS (s3) false with ⟨z, s4, b4⟩
            have z4 := numS_le (s3) false
            rw [h4] at z4
            simp only at z4
            have T4 := Lib.hid fun W => rtake_any (s3) W (by omega)
            cases b4 with
            | true =>
              rw [tk_no h4] at T4
              have HX := Lib.hid (show decS s = (noMan, 3) by rw [HDS.out, if_pos (Or.inl (red4 h1 h2 h3 h4))])
              clear h1 h2 h3 h4
              go_wp2_with fail
              refine (T4.out _).mono ?_
              rintro e w4 ⟨rfl, hb4⟩
              have HB4 := Lib.hid (HA3.out.low hb4)
              clear r0 r1 r2 r3 r4 u0 u1 u2 u3 u4 m0 m1 m2 m3 m4 f0 f1 f2 f3 f4 hb4
              have r0 : (w4).cell? ⟨w.heap.size, 0, none⟩ = some (.int .i64 0) := HB4.out.1.cell 0
              have u0 : (w4).frozen? ⟨w.heap.size, 0, none⟩ = false := HB4.out.1.frozen 0
              have r1 : (w4).cell? ⟨w.heap.size, 1, none⟩ = some (.string ⟨#[]⟩) := HB4.out.1.cell 1
              have u1 : (w4).frozen? ⟨w.heap.size, 1, none⟩ = false := HB4.out.1.frozen 1
              have r2 : (w4).cell? ⟨w.heap.size, 2, none⟩ = some (.string ⟨#[]⟩) := HB4.out.1.cell 2
              have u2 : (w4).frozen? ⟨w.heap.size, 2, none⟩ = false := HB4.out.1.frozen 2
              have r3 : (w4).cell? ⟨w.heap.size, 3, none⟩ = some (.int .i64 0) := HB4.out.1.cell 3
              have u3 : (w4).frozen? ⟨w.heap.size, 3, none⟩ = false := HB4.out.1.frozen 3
              have r4 : (w4).cell? ⟨w.heap.size, 4, none⟩ = some (.slice none 0 0) := HB4.out.1.cell 4
              have u4 : (w4).frozen? ⟨w.heap.size, 4, none⟩ = false := HB4.out.1.frozen 4
              have m0 : (w4).cell? ⟨w.heap.size + 1, 0, none⟩ = some (.int .i64 x) := HB4.out.2.1.cell 0
              have f0 : (w4).frozen? ⟨w.heap.size + 1, 0, none⟩ = false := HB4.out.2.1.frozen 0
              have m1 : (w4).cell? ⟨w.heap.size + 1, 1, none⟩ = some (.string t) := HB4.out.2.1.cell 1
              have f1 : (w4).frozen? ⟨w.heap.size + 1, 1, none⟩ = false := HB4.out.2.1.frozen 1
              have m2 : (w4).cell? ⟨w.heap.size + 1, 2, none⟩ = some (.string u) := HB4.out.2.1.cell 2
              have f2 : (w4).frozen? ⟨w.heap.size + 1, 2, none⟩ = false := HB4.out.2.1.frozen 2
              have m3 : (w4).cell? ⟨w.heap.size + 1, 3, none⟩ = some (.int .i64 0) := HB4.out.2.1.cell 3
              have f3 : (w4).frozen? ⟨w.heap.size + 1, 3, none⟩ = false := HB4.out.2.1.frozen 3
              have m4 : (w4).cell? ⟨w.heap.size + 1, 4, none⟩ = some (.slice none 0 0) := HB4.out.2.1.cell 4
              have f4 : (w4).frozen? ⟨w.heap.size + 1, 4, none⟩ = false := HB4.out.2.1.frozen 4
              go_wp2
              refine bodyPost_ret (v := .tuple #[.agg #[.int .i64 0, .string ⟨#[]⟩, .string ⟨#[]⟩, .int .i64 0, .slice none 0 0], .int .i64 3]) (by simp [results, Tryz.results25, go_sem, r0, r1, r2, r3, r4]) rfl ?_
              exact dec_out HX.out (below5 (HB4.out.2.2.1.setCell (p := ⟨w.heap.size + 1, 3, none⟩) (by simp) (.int .i64 0)) _ _ _ _ _)
            | false =>
              rw [tk_ok h4] at T4
              go_wp2_with fail
              refine (T4.out _).mono ?_
              rintro e w4 ⟨rfl, hb4⟩
              have HB4 := Lib.hid (HA3.out.low hb4)
              clear r0 r1 r2 r3 r4 u0 u1 u2 u3 u4 m0 m1 m2 m3 m4 f0 f1 f2 f3 f4 hb4
              have r0 : (w4).cell? ⟨w.heap.size, 0, none⟩ = some (.int .i64 0) := HB4.out.1.cell 0
              have u0 : (w4).frozen? ⟨w.heap.size, 0, none⟩ = false := HB4.out.1.frozen 0
              have r1 : (w4).cell? ⟨w.heap.size, 1, none⟩ = some (.string ⟨#[]⟩) := HB4.out.1.cell 1
              have u1 : (w4).frozen? ⟨w.heap.size, 1, none⟩ = false := HB4.out.1.frozen 1
              have r2 : (w4).cell? ⟨w.heap.size, 2, none⟩ = some (.string ⟨#[]⟩) := HB4.out.1.cell 2
              have u2 : (w4).frozen? ⟨w.heap.size, 2, none⟩ = false := HB4.out.1.frozen 2
              have r3 : (w4).cell? ⟨w.heap.size, 3, none⟩ = some (.int .i64 0) := HB4.out.1.cell 3
              have u3 : (w4).frozen? ⟨w.heap.size, 3, none⟩ = false := HB4.out.1.frozen 3
              have r4 : (w4).cell? ⟨w.heap.size, 4, none⟩ = some (.slice none 0 0) := HB4.out.1.cell 4
              have u4 : (w4).frozen? ⟨w.heap.size, 4, none⟩ = false := HB4.out.1.frozen 4
              have m0 : (w4).cell? ⟨w.heap.size + 1, 0, none⟩ = some (.int .i64 x) := HB4.out.2.1.cell 0
              have f0 : (w4).frozen? ⟨w.heap.size + 1, 0, none⟩ = false := HB4.out.2.1.frozen 0
              have m1 : (w4).cell? ⟨w.heap.size + 1, 1, none⟩ = some (.string t) := HB4.out.2.1.cell 1
              have f1 : (w4).frozen? ⟨w.heap.size + 1, 1, none⟩ = false := HB4.out.2.1.frozen 1
              have m2 : (w4).cell? ⟨w.heap.size + 1, 2, none⟩ = some (.string u) := HB4.out.2.1.cell 2
              have f2 : (w4).frozen? ⟨w.heap.size + 1, 2, none⟩ = false := HB4.out.2.1.frozen 2
              have m3 : (w4).cell? ⟨w.heap.size + 1, 3, none⟩ = some (.int .i64 0) := HB4.out.2.1.cell 3
              have f3 : (w4).frozen? ⟨w.heap.size + 1, 3, none⟩ = false := HB4.out.2.1.frozen 3
              have m4 : (w4).cell? ⟨w.heap.size + 1, 4, none⟩ = some (.slice none 0 0) := HB4.out.2.1.cell 4
              have f4 : (w4).frozen? ⟨w.heap.size + 1, 4, none⟩ = false := HB4.out.2.1.frozen 4
              go_upto_region 17 with fail
              have HA4 := Lib.hid (show RB w (w4.setCell ⟨w.heap.size + 1, 3, none⟩ (.int .i64 z)) (.int .i64 x) (.string t) (.string u) (.int .i64 z) from RB.set_ HB4.out.1 HB4.out.2.1 HB4.out.2.2.1 HB4.out.2.2.2 3 (.int .i64 z) rfl)
              clear r0 r1 r2 r3 r4 u0 u1 u2 u3 u4 m0 m1 m2 m3 m4 f0 f1 f2 f3 f4 HB4
              generalize w4.setCell ⟨w.heap.size + 1, 3, none⟩ (.int .i64 z) = W4 at *
              have r0 : (W4).cell? ⟨w.heap.size, 0, none⟩ = some (.int .i64 0) := HA4.out.1.cell 0
              have u0 : (W4).frozen? ⟨w.heap.size, 0, none⟩ = false := HA4.out.1.frozen 0
              have r1 : (W4).cell? ⟨w.heap.size, 1, none⟩ = some (.string ⟨#[]⟩) := HA4.out.1.cell 1
              have u1 : (W4).frozen? ⟨w.heap.size, 1, none⟩ = false := HA4.out.1.frozen 1
              have r2 : (W4).cell? ⟨w.heap.size, 2, none⟩ = some (.string ⟨#[]⟩) := HA4.out.1.cell 2
              have u2 : (W4).frozen? ⟨w.heap.size, 2, none⟩ = false := HA4.out.1.frozen 2
              have r3 : (W4).cell? ⟨w.heap.size, 3, none⟩ = some (.int .i64 0) := HA4.out.1.cell 3
              have u3 : (W4).frozen? ⟨w.heap.size, 3, none⟩ = false := HA4.out.1.frozen 3
              have r4 : (W4).cell? ⟨w.heap.size, 4, none⟩ = some (.slice none 0 0) := HA4.out.1.cell 4
              have u4 : (W4).frozen? ⟨w.heap.size, 4, none⟩ = false := HA4.out.1.frozen 4
              have m0 : (W4).cell? ⟨w.heap.size + 1, 0, none⟩ = some (.int .i64 x) := HA4.out.2.1.cell 0
              have f0 : (W4).frozen? ⟨w.heap.size + 1, 0, none⟩ = false := HA4.out.2.1.frozen 0
              have m1 : (W4).cell? ⟨w.heap.size + 1, 1, none⟩ = some (.string t) := HA4.out.2.1.cell 1
              have f1 : (W4).frozen? ⟨w.heap.size + 1, 1, none⟩ = false := HA4.out.2.1.frozen 1
              have m2 : (W4).cell? ⟨w.heap.size + 1, 2, none⟩ = some (.string u) := HA4.out.2.1.cell 2
              have f2 : (W4).frozen? ⟨w.heap.size + 1, 2, none⟩ = false := HA4.out.2.1.frozen 2
              have m3 : (W4).cell? ⟨w.heap.size + 1, 3, none⟩ = some (.int .i64 z) := HA4.out.2.1.cell 3
              have f3 : (W4).frozen? ⟨w.heap.size + 1, 3, none⟩ = false := HA4.out.2.1.frozen 3
              have m4 : (W4).cell? ⟨w.heap.size + 1, 4, none⟩ = some (.slice none 0 0) := HA4.out.2.1.cell 4
              have f4 : (W4).frozen? ⟨w.heap.size + 1, 4, none⟩ = false := HA4.out.2.1.frozen 4
              rcases h5 : numS (s4) false with ⟨n, s5, b5⟩
              have z5 := numS_le (s4) false
              rw [h5] at z5
              simp only at z5
              have T5 := Lib.hid fun W => rtake_any (s4) W (by omega)
              cases b5 with
              | true =>
                rw [tk_no h5] at T5
                have HX := Lib.hid (show decS s = (noMan, 3) by rw [HDS.out, if_pos (Or.inl (red5 h1 h2 h3 h4 h5))])
                clear h1 h2 h3 h4 h5
                go_wp2_with fail
                refine (T5.out _).mono ?_
                rintro e w5 ⟨rfl, hb5⟩
                have HB5 := Lib.hid (HA4.out.low hb5)
                clear r0 r1 r2 r3 r4 u0 u1 u2 u3 u4 m0 m1 m2 m3 m4 f0 f1 f2 f3 f4 hb5
                have r0 : (w5).cell? ⟨w.heap.size, 0, none⟩ = some (.int .i64 0) := HB5.out.1.cell 0
                have u0 : (w5).frozen? ⟨w.heap.size, 0, none⟩ = false := HB5.out.1.frozen 0
                have r1 : (w5).cell? ⟨w.heap.size, 1, none⟩ = some (.string ⟨#[]⟩) := HB5.out.1.cell 1
                have u1 : (w5).frozen? ⟨w.heap.size, 1, none⟩ = false := HB5.out.1.frozen 1
                have r2 : (w5).cell? ⟨w.heap.size, 2, none⟩ = some (.string ⟨#[]⟩) := HB5.out.1.cell 2
                have u2 : (w5).frozen? ⟨w.heap.size, 2, none⟩ = false := HB5.out.1.frozen 2
                have r3 : (w5).cell? ⟨w.heap.size, 3, none⟩ = some (.int .i64 0) := HB5.out.1.cell 3
                have u3 : (w5).frozen? ⟨w.heap.size, 3, none⟩ = false := HB5.out.1.frozen 3
                have r4 : (w5).cell? ⟨w.heap.size, 4, none⟩ = some (.slice none 0 0) := HB5.out.1.cell 4
                have u4 : (w5).frozen? ⟨w.heap.size, 4, none⟩ = false := HB5.out.1.frozen 4
                have m0 : (w5).cell? ⟨w.heap.size + 1, 0, none⟩ = some (.int .i64 x) := HB5.out.2.1.cell 0
                have f0 : (w5).frozen? ⟨w.heap.size + 1, 0, none⟩ = false := HB5.out.2.1.frozen 0
                have m1 : (w5).cell? ⟨w.heap.size + 1, 1, none⟩ = some (.string t) := HB5.out.2.1.cell 1
                have f1 : (w5).frozen? ⟨w.heap.size + 1, 1, none⟩ = false := HB5.out.2.1.frozen 1
                have m2 : (w5).cell? ⟨w.heap.size + 1, 2, none⟩ = some (.string u) := HB5.out.2.1.cell 2
                have f2 : (w5).frozen? ⟨w.heap.size + 1, 2, none⟩ = false := HB5.out.2.1.frozen 2
                have m3 : (w5).cell? ⟨w.heap.size + 1, 3, none⟩ = some (.int .i64 z) := HB5.out.2.1.cell 3
                have f3 : (w5).frozen? ⟨w.heap.size + 1, 3, none⟩ = false := HB5.out.2.1.frozen 3
                have m4 : (w5).cell? ⟨w.heap.size + 1, 4, none⟩ = some (.slice none 0 0) := HB5.out.2.1.cell 4
                have f4 : (w5).frozen? ⟨w.heap.size + 1, 4, none⟩ = false := HB5.out.2.1.frozen 4
                go_wp2
                refine bodyPost_ret (v := .tuple #[.agg #[.int .i64 0, .string ⟨#[]⟩, .string ⟨#[]⟩, .int .i64 0, .slice none 0 0], .int .i64 3]) (by simp [results, Tryz.results25, go_sem, r0, r1, r2, r3, r4]) rfl ?_
                exact dec_out HX.out (below5 HB5.out.2.2.1 _ _ _ _ _)
              | false =>
                rw [tk_ok h5] at T5
                go_wp2_with fail
                refine (T5.out _).mono ?_
                rintro e w5 ⟨rfl, hb5⟩
                have HB5 := Lib.hid (HA4.out.low hb5)
                clear r0 r1 r2 r3 r4 u0 u1 u2 u3 u4 m0 m1 m2 m3 m4 f0 f1 f2 f3 f4 hb5
                have r0 : (w5).cell? ⟨w.heap.size, 0, none⟩ = some (.int .i64 0) := HB5.out.1.cell 0
                have u0 : (w5).frozen? ⟨w.heap.size, 0, none⟩ = false := HB5.out.1.frozen 0
                have r1 : (w5).cell? ⟨w.heap.size, 1, none⟩ = some (.string ⟨#[]⟩) := HB5.out.1.cell 1
                have u1 : (w5).frozen? ⟨w.heap.size, 1, none⟩ = false := HB5.out.1.frozen 1
                have r2 : (w5).cell? ⟨w.heap.size, 2, none⟩ = some (.string ⟨#[]⟩) := HB5.out.1.cell 2
                have u2 : (w5).frozen? ⟨w.heap.size, 2, none⟩ = false := HB5.out.1.frozen 2
                have r3 : (w5).cell? ⟨w.heap.size, 3, none⟩ = some (.int .i64 0) := HB5.out.1.cell 3
                have u3 : (w5).frozen? ⟨w.heap.size, 3, none⟩ = false := HB5.out.1.frozen 3
                have r4 : (w5).cell? ⟨w.heap.size, 4, none⟩ = some (.slice none 0 0) := HB5.out.1.cell 4
                have u4 : (w5).frozen? ⟨w.heap.size, 4, none⟩ = false := HB5.out.1.frozen 4
                have m0 : (w5).cell? ⟨w.heap.size + 1, 0, none⟩ = some (.int .i64 x) := HB5.out.2.1.cell 0
                have f0 : (w5).frozen? ⟨w.heap.size + 1, 0, none⟩ = false := HB5.out.2.1.frozen 0
                have m1 : (w5).cell? ⟨w.heap.size + 1, 1, none⟩ = some (.string t) := HB5.out.2.1.cell 1
                have f1 : (w5).frozen? ⟨w.heap.size + 1, 1, none⟩ = false := HB5.out.2.1.frozen 1
                have m2 : (w5).cell? ⟨w.heap.size + 1, 2, none⟩ = some (.string u) := HB5.out.2.1.cell 2
                have f2 : (w5).frozen? ⟨w.heap.size + 1, 2, none⟩ = false := HB5.out.2.1.frozen 2
                have m3 : (w5).cell? ⟨w.heap.size + 1, 3, none⟩ = some (.int .i64 z) := HB5.out.2.1.cell 3
                have f3 : (w5).frozen? ⟨w.heap.size + 1, 3, none⟩ = false := HB5.out.2.1.frozen 3
                have m4 : (w5).cell? ⟨w.heap.size + 1, 4, none⟩ = some (.slice none 0 0) := HB5.out.2.1.cell 4
                have f4 : (w5).frozen? ⟨w.heap.size + 1, 4, none⟩ = false := HB5.out.2.1.frozen 4
                have HR6 := Lib.hid (red6 h1 h2 h3 h4 h5)
                have hsum := loopS_sizes n s5
                clear h1 h2 h3 h4 h5
                have hqq : (s5.size % 32 ≠ 0) ∨ (s5.size % 32 = 0 ∧ n ≠ s5.size / 32) ∨ (s5.size % 32 = 0 ∧ n = s5.size / 32) := by omega
                rcases hqq with hq1 | ⟨hq1, hq2⟩ | ⟨hq1, hq2⟩
                · have HX := Lib.hid (show decS s = (noMan, 3) by
                    rw [HDS.out, HR6.out]
                    refine if_pos ?_
                    simp only
                    cases hb : (loopS n s5 false).2.2 with
                    | true => exact Or.inl rfl
                    | false =>
                      have := hsum hb
                      exact Or.inr (by omega))
                  have e1 : (((s5.size : Nat) : Int) % 32 != 0) = true := by simp; omega
                  clear hq1 hsum
                  go_wp2
                  refine bodyPost_ret (v := .tuple #[.agg #[.int .i64 0, .string ⟨#[]⟩, .string ⟨#[]⟩, .int .i64 0, .slice none 0 0], .int .i64 3]) (by simp [results, Tryz.results25, go_sem, r0, r1, r2, r3, r4]) rfl ?_
                  exact dec_out HX.out (below5 HB5.out.2.2.1 _ _ _ _ _)
                · have HX := Lib.hid (show decS s = (noMan, 3) by
                    rw [HDS.out, HR6.out]
                    refine if_pos ?_
                    simp only
                    cases hb : (loopS n s5 false).2.2 with
                    | true => exact Or.inl rfl
                    | false =>
                      have := hsum hb
                      exact Or.inr (by omega))
                  have e1 : (((s5.size : Nat) : Int) % 32 != 0) = false := by simp; omega
                  have e2 : (((n : Nat) : Int) != ((s5.size : Nat) : Int) / 32) = true := by simp; omega
                  clear hq1 hq2 hsum
                  go_wp2
                  refine bodyPost_ret (v := .tuple #[.agg #[.int .i64 0, .string ⟨#[]⟩, .string ⟨#[]⟩, .int .i64 0, .slice none 0 0], .int .i64 3]) (by simp [results, Tryz.results25, go_sem, r0, r1, r2, r3, r4]) rfl ?_
                  exact dec_out HX.out (below5 HB5.out.2.2.1 _ _ _ _ _)
                · have e1 : (((s5.size : Nat) : Int) % 32 != 0) = false := by simp; omega
                  have e2 : (((n : Nat) : Int) != ((s5.size : Nat) : Int) / 32) = false := by simp; omega
                  have hn5 : s5.size = 32 * n := by omega
                  clear hq1 hq2 hsum
                  obtain ⟨i0, hi0, hz0', hz1, hz2⟩ := info_parts infoS
                  have hfull := loopS_full n s5 hn5
                  have hrest := loopS_sizes n s5 hfull
                  have HDG := Lib.hid (show decS s = (if goodM ⟨x, t, u, z, (loopS n s5 false).1⟩ = true then (⟨x, t, u, z, (loopS n s5 false).1⟩, 0) else (noMan, 4)) by
                    rw [HDS.out, HR6.out]
                    refine if_neg (fun h => ?_)
                    simp only at h
                    rcases h with h | h
                    · rw [hfull] at h; cases h
                    · omega)
                  clear hfull hrest HDS HR6 hpre HB0 HA1 HA2 HA3 HA4 T1 T2 T3 T4 T5 hq hq4
                  go_wp2
                  clear r0 r1 r2 r3 r4 u0 u1 u2 u3 u4 m0 m1 m2 m3 m4 f0 f1 f2 f3 f4 e1 e2
                  go_loopw [0] (fun tv wr => ∃ (k cur : Nat) (acc : List ByteArray) (A : Option Addr) (s' : ByteArray), tv = .string s' ∧ s'.size = 32 * k ∧ Blk wr (w.heap.size + 1) 54 #[.int .i64 x, .string t, .string u, .int .i64 z, .slice A acc.length cur] ∧ wr.ownsRow (w.heap.size + 2) 9 1 (.slice A acc.length cur) acc.length (strsV acc) ∧ Blk wr w.heap.size 54 #[.int .i64 0, .string ⟨#[]⟩, .string ⟨#[]⟩, .int .i64 0, .slice none 0 0] ∧ Below w.heap.size w wr ∧ acc ++ (loopS k s' false).1 = (loopS n s5 false).1 ∧ k + acc.length ≤ 1099511627776 ∧ s'.size ≤ 1099511627776 ∧ w.heap.size + 2 ≤ wr.heap.size) (fun tv _ => match tv with | .string b => b.size | _ => 0)
                  case atStart =>
                    exact ⟨n, 0, [], none, s5, rfl, hn5, HB5.out.2.1, ⟨rfl, Or.inl ⟨rfl, rfl⟩⟩, HB5.out.1, HB5.out.2.2.1, rfl, by simp; omega, by omega, HB5.out.2.2.2⟩
                  case round =>
                    obtain ⟨k, cur, acc, A, s', rfl, hsk, hm, hown, hno, hb, hn1, hk, hs', hsz⟩ := hrel
                    have HM := Lib.hid hm
                    have HNO := Lib.hid hno
                    have HB := Lib.hid hb
                    have HN := Lib.hid hn1
                    have hem := toList_isEmpty s'
                    clear hm hno hb hn1 HB5 hn5
                    by_cases hk0 : k = 0
                    · subst hk0
                      rw [decide_eq_true (show s'.size = 0 by omega)] at hem
                      have hfin : acc = (loopS n s5 false).1 := by
                        have := HN.out
                        simpa [loopS] using this
                      have HDG2 := Lib.hid (show decS s = (if goodM ⟨x, t, u, z, acc⟩ = true then (⟨x, t, u, z, acc⟩, 0) else (noMan, 4)) by rw [hfin]; exact HDG.out)
                      clear HDG hfin HN
                      have hst := (own_strs (l := acc) hown).1
                      have hCK := mgood_any ⟨x, t, u, z, acc⟩ A cur wr (HEV.out _ HB.out) hst ⟨by simp only; omega, by simp only; omega, by simp only; omega, by simp only; omega, by simp only; omega, by simp only; omega, by simp only; omega⟩
                      unfold manV at hCK
                      simp only at hCK
                      have HCK := Lib.hid hCK
                      have m0 : (wr).cell? ⟨w.heap.size + 1, 0, none⟩ = some (.int .i64 x) := HM.out.cell 0
                      have f0 : (wr).frozen? ⟨w.heap.size + 1, 0, none⟩ = false := HM.out.frozen 0
                      have m1 : (wr).cell? ⟨w.heap.size + 1, 1, none⟩ = some (.string t) := HM.out.cell 1
                      have f1 : (wr).frozen? ⟨w.heap.size + 1, 1, none⟩ = false := HM.out.frozen 1
                      have m2 : (wr).cell? ⟨w.heap.size + 1, 2, none⟩ = some (.string u) := HM.out.cell 2
                      have f2 : (wr).frozen? ⟨w.heap.size + 1, 2, none⟩ = false := HM.out.frozen 2
                      have m3 : (wr).cell? ⟨w.heap.size + 1, 3, none⟩ = some (.int .i64 z) := HM.out.cell 3
                      have f3 : (wr).frozen? ⟨w.heap.size + 1, 3, none⟩ = false := HM.out.frozen 3
                      have m4 : (wr).cell? ⟨w.heap.size + 1, 4, none⟩ = some (.slice A acc.length cur) := HM.out.cell 4
                      have f4 : (wr).frozen? ⟨w.heap.size + 1, 4, none⟩ = false := HM.out.frozen 4
                      have HST := Lib.hid fun h => own_strs2 (l := acc) hown h
                      have HLE : acc.length ≤ cur := by
                        obtain ⟨_, _, q1, q2⟩ := own_form hown
                        injection q1 with _ _ q3
                        omega
                      clear hst hCK hown
                      cases hg : goodM ⟨x, t, u, z, acc⟩ with
                      | false =>
                        rw [hg] at HCK
                        have HX := Lib.hid (show decS s = (noMan, 4) by rw [HDG2.out, if_neg (by rw [hg]; simp)])
                        clear hg HDG2
                        go_wp2_with fail
                        refine HCK.out.mono ?_
                        rintro e w9 ⟨rfl, hb9⟩
                        have HB9 := Lib.hid (HB.out.trans (hb9.mono HB.out.size))
                        have HN9 := Lib.hid (Blk.below HNO.out hb9 (by omega))
                        have HM9 := Lib.hid (Blk.below HM.out hb9 (by omega))
                        clear hb9 m0 m1 m2 m3 m4 f0 f1 f2 f3 f4
                        have r0 : (w9).cell? ⟨w.heap.size, 0, none⟩ = some (.int .i64 0) := HN9.out.cell 0
                        have u0 : (w9).frozen? ⟨w.heap.size, 0, none⟩ = false := HN9.out.frozen 0
                        have r1 : (w9).cell? ⟨w.heap.size, 1, none⟩ = some (.string ⟨#[]⟩) := HN9.out.cell 1
                        have u1 : (w9).frozen? ⟨w.heap.size, 1, none⟩ = false := HN9.out.frozen 1
                        have r2 : (w9).cell? ⟨w.heap.size, 2, none⟩ = some (.string ⟨#[]⟩) := HN9.out.cell 2
                        have u2 : (w9).frozen? ⟨w.heap.size, 2, none⟩ = false := HN9.out.frozen 2
                        have r3 : (w9).cell? ⟨w.heap.size, 3, none⟩ = some (.int .i64 0) := HN9.out.cell 3
                        have u3 : (w9).frozen? ⟨w.heap.size, 3, none⟩ = false := HN9.out.frozen 3
                        have r4 : (w9).cell? ⟨w.heap.size, 4, none⟩ = some (.slice none 0 0) := HN9.out.cell 4
                        have u4 : (w9).frozen? ⟨w.heap.size, 4, none⟩ = false := HN9.out.frozen 4
                        have m0 : (w9).cell? ⟨w.heap.size + 1, 0, none⟩ = some (.int .i64 x) := HM9.out.cell 0
                        have f0 : (w9).frozen? ⟨w.heap.size + 1, 0, none⟩ = false := HM9.out.frozen 0
                        have m1 : (w9).cell? ⟨w.heap.size + 1, 1, none⟩ = some (.string t) := HM9.out.cell 1
                        have f1 : (w9).frozen? ⟨w.heap.size + 1, 1, none⟩ = false := HM9.out.frozen 1
                        have m2 : (w9).cell? ⟨w.heap.size + 1, 2, none⟩ = some (.string u) := HM9.out.cell 2
                        have f2 : (w9).frozen? ⟨w.heap.size + 1, 2, none⟩ = false := HM9.out.frozen 2
                        have m3 : (w9).cell? ⟨w.heap.size + 1, 3, none⟩ = some (.int .i64 z) := HM9.out.cell 3
                        have f3 : (w9).frozen? ⟨w.heap.size + 1, 3, none⟩ = false := HM9.out.frozen 3
                        have m4 : (w9).cell? ⟨w.heap.size + 1, 4, none⟩ = some (.slice A acc.length cur) := HM9.out.cell 4
                        have f4 : (w9).frozen? ⟨w.heap.size + 1, 4, none⟩ = false := HM9.out.frozen 4
                        go_wp2
                        refine bodyPost_ret (v := .tuple #[.agg #[.int .i64 0, .string ⟨#[]⟩, .string ⟨#[]⟩, .int .i64 0, .slice none 0 0], .int .i64 4]) (by simp [results, Tryz.results25, go_sem, r0, r1, r2, r3, r4]) rfl ?_
                        exact dec_out HX.out (below5 HB9.out _ _ _ _ _)
                      | true =>
                        rw [hg] at HCK
                        have HX := Lib.hid (show decS s = (⟨x, t, u, z, acc⟩, 0) by rw [HDG2.out, if_pos hg])
                        clear hg HDG2
                        go_wp2_with fail
                        refine HCK.out.mono ?_
                        rintro e w9 ⟨rfl, hb9⟩
                        have HB9 := Lib.hid (HB.out.trans (hb9.mono HB.out.size))
                        have HN9 := Lib.hid (Blk.below HNO.out hb9 (by omega))
                        have HM9 := Lib.hid (Blk.below HM.out hb9 (by omega))
                        have HS9 := Lib.hid (show 0 < acc.length → ∃ g, A = some ⟨g, 0, none⟩ ∧ w.heap.size + 2 ≤ g ∧ g < w9.heap.size ∧ ∀ (j : Nat) (u : ByteArray), acc[j]? = some u → w9.cell? ⟨g, 0 + j, none⟩ = some (.string u) from fun h => by
                          obtain ⟨g, q1, q2, q3, q4⟩ := HST.out h
                          exact ⟨g, q1, q2, Nat.lt_of_lt_of_le q3 hb9.size, fun j u hj => (hb9.cell (p := ⟨g, 0 + j, none⟩) q3).trans (q4 j u hj)⟩)
                        clear hb9 m0 m1 m2 m3 m4 f0 f1 f2 f3 f4
                        have r0 : (w9).cell? ⟨w.heap.size, 0, none⟩ = some (.int .i64 0) := HN9.out.cell 0
                        have u0 : (w9).frozen? ⟨w.heap.size, 0, none⟩ = false := HN9.out.frozen 0
                        have r1 : (w9).cell? ⟨w.heap.size, 1, none⟩ = some (.string ⟨#[]⟩) := HN9.out.cell 1
                        have u1 : (w9).frozen? ⟨w.heap.size, 1, none⟩ = false := HN9.out.frozen 1
                        have r2 : (w9).cell? ⟨w.heap.size, 2, none⟩ = some (.string ⟨#[]⟩) := HN9.out.cell 2
                        have u2 : (w9).frozen? ⟨w.heap.size, 2, none⟩ = false := HN9.out.frozen 2
                        have r3 : (w9).cell? ⟨w.heap.size, 3, none⟩ = some (.int .i64 0) := HN9.out.cell 3
                        have u3 : (w9).frozen? ⟨w.heap.size, 3, none⟩ = false := HN9.out.frozen 3
                        have r4 : (w9).cell? ⟨w.heap.size, 4, none⟩ = some (.slice none 0 0) := HN9.out.cell 4
                        have u4 : (w9).frozen? ⟨w.heap.size, 4, none⟩ = false := HN9.out.frozen 4
                        have m0 : (w9).cell? ⟨w.heap.size + 1, 0, none⟩ = some (.int .i64 x) := HM9.out.cell 0
                        have f0 : (w9).frozen? ⟨w.heap.size + 1, 0, none⟩ = false := HM9.out.frozen 0
                        have m1 : (w9).cell? ⟨w.heap.size + 1, 1, none⟩ = some (.string t) := HM9.out.cell 1
                        have f1 : (w9).frozen? ⟨w.heap.size + 1, 1, none⟩ = false := HM9.out.frozen 1
                        have m2 : (w9).cell? ⟨w.heap.size + 1, 2, none⟩ = some (.string u) := HM9.out.cell 2
                        have f2 : (w9).frozen? ⟨w.heap.size + 1, 2, none⟩ = false := HM9.out.frozen 2
                        have m3 : (w9).cell? ⟨w.heap.size + 1, 3, none⟩ = some (.int .i64 z) := HM9.out.cell 3
                        have f3 : (w9).frozen? ⟨w.heap.size + 1, 3, none⟩ = false := HM9.out.frozen 3
                        have m4 : (w9).cell? ⟨w.heap.size + 1, 4, none⟩ = some (.slice A acc.length cur) := HM9.out.cell 4
                        have f4 : (w9).frozen? ⟨w.heap.size + 1, 4, none⟩ = false := HM9.out.frozen 4
                        go_wp2
                        refine bodyPost_ret (v := .tuple #[.agg #[.int .i64 x, .string t, .string u, .int .i64 z, .slice A acc.length cur], .int .i64 0]) (by simp [results, Tryz.results25, go_sem, r0, r1, r2, r3, r4]) rfl ?_
                        refine ⟨A, cur, by rw [HX.out]; rfl, ?_, below5 HB9.out _ _ _ _ _, by rw [HX.out]; exact HLE, by rw [HX.out]; simp only; omega⟩
                        rw [HX.out]
                        intro hl
                        obtain ⟨g, q1, q2, q3, q4⟩ := HS9.out hl
                        refine ⟨g, 0, q1, by simp; exact q3, fun j u hj => ?_⟩
                        rw [← q4 j u hj]
                        refine World.cell?_of_block ?_
                        rw [Below.heap_setCell _ _ _ _ (by simp; omega), Below.heap_setCell _ _ _ _ (by simp; omega), Below.heap_setCell _ _ _ _ (by simp; omega), Below.heap_setCell _ _ _ _ (by simp; omega), Below.heap_setCell _ _ _ _ (by simp; omega)]
                    · obtain ⟨k, rfl⟩ : ∃ j, k = j + 1 := ⟨k - 1, by omega⟩
                      have hz32 : ¬ s'.size < 32 := by omega
                      have HT := Lib.hid (show takS s' false 32 = (s'.extract 0 32, s'.extract 32 s'.size, false) from if_neg hz32)
                      have HL := Lib.hid (show (loopS (k + 1) s' false).1 = s'.extract 0 32 :: (loopS k (s'.extract 32 s'.size) false).1 by
                        simp only [loopS, HT.out]
                        simp)
                      have hsz2 : (s'.extract 32 s'.size).size = 32 * k := by simp only [ByteArray.size_extract]; omega
                      rw [decide_eq_false (show ¬ s'.size = 0 by omega)] at hem
                      have h32 : (32 : Int) ≤ (s'.size : Int) := by omega
                      have c4 : wr.cell? ⟨w.heap.size + 1, 4, none⟩ = some (.slice A acc.length cur) := HM.out.cell 4
                      have HSK := Lib.hid hsk
                      have HSK2 := Lib.hid hsz2
                      have c4a : (wr.alloc (.cells #[.string (s'.extract 0 32)] 9)).cell? ⟨w.heap.size + 1, 4, none⟩ = some (.slice A acc.length cur) := (HM.out.alloc _).cell 4
                      clear hz32 hsk hsz2
                      go_upto_region 21 with fail
                      go_region_law (first
                        | (refine step_append_lies _ (by rfl) _ _ _ (by rfl) (w.heap.size + 2) 9 i0 _ 1 16 Tryz.underlying30 hi0 hz0' hz1 hz2 rfl (by decide) (.slice A acc.length cur) acc.length (strsV acc) (by rfl) (hown.drew.alloc _) ⟨wr.heap.size, 0, none⟩ 1 1 [.string (s'.extract 0 32)] (by rfl) (by rfl) (World.news_of_block (cs := #[.string (s'.extract 0 32)]) (heap_alloc_new wr.drew _)) (by simp [Value.oneCell']) (by decide) (by unfold maxLen; omega) (by omega) (by simp; omega) _ rfl ?_; intro g cap w5' hown5 hg5 hat hlt; have hM5 := (HM.out.drew.alloc (.cells #[.string (s'.extract 0 32)] 9)).grown hg5 (own_ne hown (by omega)); have c5 : w5'.cell? ⟨w.heap.size + 1, 4, none⟩ = some (.slice A acc.length cur) := hM5.cell 4; have f5 := hM5.frozen 4))
                      all_goals
                        have HM5 := Lib.hid (hM5.set_ 4 (.slice (some ⟨g, 0, none⟩) (acc.length + 1) cap))
                        have HN5 := Lib.hid ((((Blk.drew HNO.out).alloc (.cells #[.string (s'.extract 0 32)] 9)).grown hg5 (own_ne hown (by omega))).far (p := ⟨w.heap.size + 1, 4, none⟩) (by simp) (.slice (some ⟨g, 0, none⟩) (acc.length + 1) cap))
                        have HB5 := Lib.hid ((((HB.out.drew.alloc (by show w.heap.size ≤ wr.heap.size; omega) (.cells #[.string (s'.extract 0 32)] 9)).grown hg5 (by simp; omega) (fun j hj => by have := (hown.lt j hj).1; omega)).setCell (p := ⟨w.heap.size + 1, 4, none⟩) (by simp) (.slice (some ⟨g, 0, none⟩) (acc.length + 1) cap)))
                        have HO5 := Lib.hid (hown5.kept (Only.set (w.heap.size + 1) 4 w5' (.slice (some ⟨g, 0, none⟩) (acc.length + 1) cap)).grown (own_far hown5 (by omega)))
                        have HZ5 := Lib.hid (show w.heap.size + 2 ≤ w5'.heap.size from Nat.le_trans (by simp; omega) hg5.size)
                        clear hM5 hown5 hg5 hat c4 c4a c5 f5 hown
                        go_wp2
                        go_roundw
                        case rel =>
                          refine ⟨k, cap, acc ++ [s'.extract 0 32], some ⟨g, 0, none⟩, s'.extract 32 s'.size, rfl, HSK2.out, ?_, ?_, HN5.out, HB5.out, ?_, by simp; omega, by simp only [ByteArray.size_extract]; omega, by rw [World.size_setCell]; exact HZ5.out⟩
                          · have := HM5.out
                            simpa using this
                          · have := HO5.out
                            simpa [strsV] using this
                          · rw [List.append_assoc, List.singleton_append, ← HL.out]; exact HN.out
                        case measure => simp only [ByteArray.size_extract]; omega
end Go.Proofs.YtpeepdkeicgkiaaGreatDoor
namespace Go.Proofs.YtpeepdkeicgkiaaGreatDoor
set_option linter.unusedVariables false
set_option linter.unusedSimpArgs false
set_option linter.unusedSectionVars false
open Go.RowKit Go.Maps Go.Shelf Go.Lib Go.Sort

theorem ext_one (s : ByteArray) : (s.extract 0 1).data.toList = s.data.toList.take 1 := by simp
/-- the document's way to ask -/
theorem isP_doc (n : ByteArray) : isP frontS n = (decide (1 ≤ n.size) && decide (n.extract 0 1 = frontS) && isNameD (n.extract 1 n.size)) := by
  by_cases h : 1 ≤ n.size ∧ n.extract 0 1 = frontS
  · have e : n = frontS ++ n.extract 1 n.size := by
      rw [← h.2]
      apply ba_inj
      rw [ByteArray.data_append, Array.toList_append, ext_drop]
      rw [ext_one, List.take_append_drop]
    rw [decide_eq_true h.1, decide_eq_true h.2, Bool.true_and, Bool.true_and]
    conv => lhs; rw [e]
    rw [isP_snap]
  · have h2 : isP frontS n = false := by
      cases hp : isP frontS n with
      | false => rfl
      | true =>
        obtain ⟨id, rfl, _⟩ := isP_split hp
        exact absurd ⟨by rw [ByteArray.size_append]; show 1 ≤ 1 + id.size; omega, by
          apply ba_inj
          rw [ext_one, frontS_list]; rfl⟩ h
    rw [h2]
    symm
    rw [Bool.and_eq_false_iff, Bool.and_eq_false_iff, decide_eq_false_iff_not, decide_eq_false_iff_not]
    by_cases h1 : 1 ≤ n.size
    · exact .inl (.inr fun h2 => h ⟨h1, h2⟩)
    · exact .inl (.inl h1)
set_option maxRecDepth 100000 in
set_option maxHeartbeats 800000 in
theorem ris_any (n : ByteArray) (w : World) (hs : n.size ≤ 1099511627776) : Calls Tryz.prog 23 #[.string frontS, .string n] w fun e w' => e = .returned (.bool (isP frontS n)) ∧ Below w.heap.size w w' := by
  have HP := Lib.hid (isP_doc n)
  have hsz : (n.extract 1 n.size).size = min n.size n.size - 1 := ByteArray.size_extract
  have HN := Lib.hid fun W => named_any (n.extract 1 n.size) W (by omega)
  have hf1 : ((frontS.size : Nat) : Int) = 1 := rfl
  generalize isP frontS n = ans at *
  by_cases h1 : 1 ≤ n.size
  · rw [decide_eq_true h1, Bool.true_and] at HP
    have hle : (1 : Int) ≤ (n.size : Int) := by omega
    have hx := str_eqb (n.extract 0 1) frontS
    rw [show frontS = (⟨#[115]⟩ : ByteArray) from rfl] at *
    rw [show (⟨#[115]⟩ : ByteArray).toList = [115] from by decide +kernel] at hx
    generalize decide (n.extract 0 1 = (⟨#[115]⟩ : ByteArray)) = b1 at *
    cases b1 with
    | true =>
      rw [Bool.true_and] at HP
      go_enter Tryz.func23, Tryz.ntmps23
      go_wp2_with fail
      refine (HN.out _).mono ?_
      rintro e w1 ⟨rfl, hb1⟩
      have HB1 := Lib.hid hb1
      go_wp2
      go_ret
      exact ⟨ret_bool HP.out.symm, HB1.out⟩
    | false =>
      rw [Bool.false_and] at HP
      go_enter Tryz.func23, Tryz.ntmps23
      go_wp2
      go_ret
      exact ⟨ret_bool HP.out.symm, Below.refl _ _⟩
  · rw [decide_eq_false h1, Bool.false_and, Bool.false_and] at HP
    have hz : n.size = 0 := by omega
    rw [show frontS = (⟨#[115]⟩ : ByteArray) from rfl] at *
    go_enter Tryz.func23, Tryz.ntmps23
    go_wp2
    go_ret
    exact ⟨ret_bool HP.out.symm, Below.refl _ _⟩
set_option maxRecDepth 100000 in
set_option maxHeartbeats 400000 in
/-- the document's Named, of a text of any length -/
theorem named_big (s : ByteArray) (w : World) : Calls Tryz.prog 28 #[.string s] w fun e w' => e = .returned (.bool (isNameD s)) ∧ Below w.heap.size w w' := by
  by_cases h64 : s.size = 64
  · exact named_any s w (by omega)
  · have HN := Lib.hid (show isNameD s = false by unfold isNameD; rw [decide_eq_false h64]; rfl)
    have hq : ((s.size : Int) == 64) = false := by simp; omega
    clear h64
    go_enter Tryz.func28, Tryz.ntmps28
    go_wp2
    go_ret
    exact ⟨ret_bool HN.out.symm, Below.refl _ _⟩
set_option maxRecDepth 100000 in
theorem names_dead (b : Nat) (D : Dk) (L : Lay) (front : ByteArray) (w : World) (h : DiskAt w b D L) (hd : D.dead = true) :
    Calls Tryz.prog 33 #[.pointer (some ⟨b, 0, none⟩), .string front] w fun e w' => e = .returned (.tuple #[.slice none 0 0, .int .i64 10]) ∧ Below w.heap.size w w' := by
  have HL := Lib.hid (list_dead b D L w h hd)
  clear h hd
  go_enter Tryz.func33, Tryz.ntmps33
  go_wp2_with fail
  refine HL.out.mono ?_
  rintro e w1 ⟨rfl, rfl⟩
  go_wp2
  go_ret2
  exact ⟨rfl, Below.refl _ _⟩
set_option maxRecDepth 100000 in
theorem mlist_dead (b : Nat) (D : Dk) (L : Lay) (w : World) (h : DiskAt w b D L) (hd : D.dead = true) :
    Calls Tryz.prog 11 #[.pointer (some ⟨b, 0, none⟩)] w fun e w' => e = .returned (.tuple #[.slice none 0 0, .slice none 0 0, .int .i64 10]) ∧ Below w.heap.size w w' := by
  have HL := Lib.hid (names_dead b D L frontS w h hd)
  rw [show frontS = (⟨#[115]⟩ : ByteArray) from rfl] at HL
  clear h hd
  go_enter Tryz.func11, Tryz.ntmps11
  go_wp2_with fail
  refine HL.out.mono ?_
  rintro e w1 ⟨rfl, hb1⟩
  go_wp2
  go_ret3
  exact ⟨rfl, hb1⟩
theorem snapK : Tryz.prog.stoodInHeld 38 = false := by kernel_rfl
theorem tl_iff (a b : ByteArray) : a.toList = b.toList ↔ a = b := by
  have := str_eqb a b
  rw [Bool.eq_iff_iff, beq_iff_eq, decide_eq_true_eq] at this
  exact this
/-- two snapshots' '==' -/
def eqS (a : ByteArray) (b : Int) (c a' : ByteArray) (b' : Int) (c' : ByteArray) : Bool := decide (a = a') && decide (b = b') && decide (c = c')
theorem eqSnap (a : ByteArray) (b : Int) (c a' : ByteArray) (b' : Int) (c' : ByteArray) (w : World) : (Op.equalIn 10000 38 (.agg #[.string a, .int .i64 b, .string c]) (.agg #[.string a', .int .i64 b', .string c'])).run Tryz.prog w = .ok (eqS a b c a' b' c') w := by
  have hS : Tryz.prog.underlying 38 = some (.struct (Tryz.prog.fieldsOf 38)) := by kernel_rfl
  rw [show (10000 : Nat) = 9999 + 1 from rfl, run_equalIn_agg w 9999 38 _ _ hS snapK]
  simp only [Program.fieldsOf, Tryz.underlying38]
  go_simp
  unfold eqS
  by_cases h1 : a = a' <;> by_cases h2 : b = b' <;> by_cases h3 : c = c' <;> simp [h1, h2, h3, tl_iff]
@[go_sem high] theorem eqlSnap (a : ByteArray) (b : Int) (c a' : ByteArray) (b' : Int) (c' : ByteArray) (w : World) : (binOp .eql 38 (.agg #[.string a, .int .i64 b, .string c]) (.agg #[.string a', .int .i64 b', .string c'])).run Tryz.prog w = .ok (.bool (eqS a b c a' b' c')) w := by
  rw [run_eql_struct, eqSnap]
  rfl
end Go.Proofs.YtpeepdkeicgkiaaGreatDoor
namespace Go.Proofs.YtpeepdkeicgkiaaGreatDoor
set_option linter.unusedVariables false
set_option linter.unusedSimpArgs false
set_option linter.unusedSectionVars false
open Go.RowKit Go.Maps Go.Shelf Go.Lib Go.Sort

theorem own_none {w : World} {B k : Nat} {t : TypeId} : w.ownsRow B t k (.slice none 0 0) 0 [] := ⟨by simp, .inl ⟨rfl, rfl⟩⟩
/-- the disk and a row of texts, none beside -/
theorem GI.start1 {w0 w1 : World} {b : Nat} {D : Dk} {L : Lay} (h1 : DiskAt w1 b D L) (h2 : Below w0.heap.size w0 w1) (h3 : ∀ k ∈ foot b L, w0.heap.size ≤ k) :
    GI w0 (w1.alloc (.cells #[] 9)) b D (.slice (some ⟨w1.heap.size, 0, none⟩) 0 0) (.slice none 0 0) [] [] := by
  have hb : Below w1.heap.size w1 (w1.alloc (.cells #[] 9)) := (Below.refl _ _).alloc (Nat.le_refl _) _
  have hz := h2.size
  refine ⟨L, h1.below hb, h2.trans (hb.mono hz), h3, World.ownsRow_lit (base := w0.heap.size) (size := 1) (e := 9) w1 #[] 0 hz (by decide) rfl, own_none, fun k hk hm => ?_, fun k hk => (by cases hk), fun k hk hk2 => by cases hk2⟩
  obtain rfl : w1.heap.size = k := by simpa [Value.ownBlock] using hk
  have := h1.flt _ hm; omega
theorem own_emptyL {w : World} {B : Nat} {t : TypeId} (h : B ≤ w.heap.size) : (w.alloc (.cells #[] t)).ownsRow B t 1 (.slice (some ⟨w.heap.size, 0, none⟩) 0 0) 0 [] :=
  World.ownsRow_lit (base := B) (size := 1) (e := t) w #[] 0 h (by decide) rfl
theorem small_restL {D : Dk} {R : Int} {N F Z n : Nat} (h : Rest D R N F Z) (hn : F ≤ n) : D.small n := ⟨Nat.le_trans h.calm.fl hn, by have := h.calm.st; omega⟩
/-- a call of the disk; what was made since is as it was -/
theorem GI.diskK {w0 w00 w : World} {b : Nat} {D D' : Dk} {av gv : Value} {all gone : List ByteArray} {f : FuncId} {args : Array Value} {r : Value} (h : GI w0 w00 b D av gv all gone) (hb : Below w00.heap.size w00 w)
    (hc : ∀ L, DiskAt w b D L → Calls Tryz.prog f args w fun e w' => e = .returned r ∧ DkPost b L D' w w') :
    Calls Tryz.prog f args w fun e w' => e = .returned r ∧ GI w0 w' b D' av gv all gone ∧ w.heap.size ≤ w'.heap.size ∧ ∀ k, w00.heap.size ≤ k → k < w.heap.size → w'.heap[k]? = w.heap[k]? := by
  obtain ⟨L, h1, h2, h3, h4, h5, h6, h7, h8⟩ := h
  have hfl := h1.flt
  have h1' := h1.below hb
  refine (hc L h1').mono fun e w' ⟨q, hp⟩ => ⟨q, ?_, ?_, ?_⟩
  · exact GI.post h1' (h2.trans (hb.mono h2.size)) h3 (ownsRow_below h4 hb) (ownsRow_below h5 hb) h6 h7 h8 hp
  · obtain ⟨L', _, q2, _⟩ := hp
    exact q2.size
  · obtain ⟨L', _, q2, _⟩ := hp
    intro k h1 h2
    exact q2.block k h2 fun hm => by have := hfl k hm; omega
/-- a row of texts lies in blocks that are as they were -/
theorem StrsA.kept {w w' : World} {A : Option Addr} {l : List ByteArray} {n : Nat} (h : StrsA w w.heap.size A l) (hA : ∀ g o, A = some ⟨g, o, none⟩ → 0 < l.length → n ≤ g) (hz : w.heap.size ≤ w'.heap.size) (hk : ∀ k, n ≤ k → k < w.heap.size → w'.heap[k]? = w.heap[k]?) : StrsA w' w'.heap.size A l := fun hl => by
  obtain ⟨g, o, e1, e2, e3⟩ := h hl
  exact ⟨g, o, e1, Nat.lt_of_lt_of_le e2 hz, fun j u hj => (World.cell?_of_block (w := w) (a := ⟨g, o + j, none⟩) (hk g (hA g o e1 hl) e2)).trans (e3 j u hj)⟩
theorem Op14Ok.up {w W : World} {x : Op14} (h : Op14Ok w x) (hb : Below w.heap.size w W) : Op14Ok W x := ⟨h.src, h.dst, h.at', h.row.below hb, h.kok, h.few, h.shp⟩
/-- the call with another file -/
def Op14.to (x : Op14) (s : ByteArray) : Op14 := { x with src := s }
theorem Op14Ok.to {W : World} {x : Op14} (h : Op14Ok W x) {s : ByteArray} (hs : s.size ≤ 9223372036854775807) : Op14Ok W (x.to s) := ⟨hs, h.dst, h.at', h.row, h.kok, h.few, h.shp⟩
theorem SzI.small {k z n : Nat} {D : Dk} (h : SzI k z D) (hk : k ≤ n) : D.small n := ⟨Nat.le_trans h.fl hk, by have := h.st; omega⟩
/-- a call at its place in the row that came in -/
theorem OpsP.at' {w W : World} {O : Option Addr} {co : Nat} {ops : List Op14} (h : OpsP w (.slice O ops.length co) ops) (hb : Below w.heap.size w W) {i : Nat} (hi : i < ops.length) : ∃ g o, O = some ⟨g, o, none⟩ ∧ Op14Ok W ops[i] ∧ ∀ (j : Nat) (u : Value), ops[i].cells[j]? = some u → W.cell? ⟨g, o + i * 5 + j, none⟩ = some u := by
  obtain ⟨a, c, e, _, hh⟩ := h
  obtain ⟨g, o, cs, e2, hlt, ⟨rfl, hok⟩, hc⟩ := hh i hi
  injection e with e _ _
  exact ⟨g, o, e.trans e2, hok.up hb, fun j u hj => (hb.cell (p := ⟨g, o + i * 5 + j, none⟩) hlt).trans (hc j u hj)⟩
theorem manB_good {m : Man} (h : goodM m = true) : ManB m := by
  obtain ⟨⟨t1, t2⟩, g1, p1, ⟨z1, z2, c1, c2⟩, hc⟩ := good_parts h
  exact ⟨by omega, by omega, by omega, by omega, by omega, by omega, by omega⟩
theorem manB_load (D : Dk) (id : ByteArray) : ManB (D.mload id).1 := by
  by_cases h : (D.mload id).2 = 0
  · exact manB_good (mload_good h)
  · have e : (D.mload id).1 = noMan := by
      unfold Dk.mload at h ⊢
      split
      · rfl
      · split
        · rfl
        · next h1 h2 => rw [if_neg h1, if_neg h2] at h; exact absurd rfl h
    rw [e]
    refine ⟨?_, ?_, ?_, ?_, ?_, ?_, ?_⟩ <;> decide
theorem load_at {D : Dk} {z : Nat} (h : ∀ i, (D.flAt i).data.size ≤ z) (n : ByteArray) : (D.read n).1.size ≤ z := by
  unfold Dk.read
  split
  · exact Nat.zero_le _
  · split
    · exact h _
    · exact Nat.zero_le _
theorem enc_load {D : Dk} {z : Nat} (h : ∀ i, (D.flAt i).data.size ≤ z) (id : ByteArray) : (encR (D.mload id).1).1.size ≤ z := by
  by_cases hg : goodM (D.mload id).1 = true
  · unfold encR
    rw [if_pos hg]
    unfold Dk.mload at hg ⊢
    generalize hq : D.load frontS (frontS ++ id) = q at *
    have hz : q.1.size ≤ z := by
      rw [← hq]
      unfold Dk.load
      split
      · exact Nat.zero_le _
      · split
        · exact Nat.zero_le _
        · split
          · exact Nat.zero_le _
          · exact load_at h _
    by_cases h1 : q.2 = 0
    · rw [if_neg (not_not_intro h1)] at hg ⊢
      by_cases h2 : (decS q.1).2 = 0
      · rw [if_neg (not_not_intro h2)] at hg ⊢
        rw [(decS_back h2).2]
        exact hz
      · rw [if_pos h2] at hg
        exact absurd hg (by decide)
    · rw [if_pos h1] at hg
      exact absurd (show goodM noMan = true from hg) (by decide)
  · unfold encR
    rw [if_neg hg]
    exact Nat.zero_le _
end Go.Proofs.YtpeepdkeicgkiaaGreatDoor
namespace Go.Proofs.YtpeepdkeicgkiaaGreatDoor
set_option linter.unusedVariables false
set_option linter.unusedSimpArgs false
set_option linter.unusedSectionVars false
open Go.RowKit Go.Maps Go.Shelf Go.Lib Go.Sort

theorem less_ltL : ∀ x y : List UInt8, Op.bytesLess x y = decide (x < y)
  | [], [] => by simp [Op.bytesLess]
  | [], _ :: _ => by simp [Op.bytesLess]
  | _ :: _, [] => by simp [Op.bytesLess]
  | a :: x, b :: y => by
    rw [Op.bytesLess, less_ltL x y]
    rw [Bool.eq_iff_iff]
    simp [List.cons_lt_cons_iff]
set_option maxRecDepth 100000 in
set_option maxHeartbeats 12800000 in
theorem lists_all (A : Option Addr) (ca : Nat) (l : List Man) (O : Option Addr) (co : Nat) (ops : List Op14) (id : ByteArray) (w : World) (he : Env w) (hm : MansI w A l) (hl : l.length ≤ 140737488355328) (ho : OpsP w (.slice O ops.length co) ops) (hol : ops.length ≤ 9223372036854775807) (hid : id.size ≤ 140737488355328) :
    Calls Tryz.prog 6 #[.slice A l.length ca, .slice O ops.length co, .string id] w fun e w' => e = .returned (.bool true) ∧ Below w.heap.size w w' := by
  have HE := Lib.hid fun W (hb : Below w.heap.size w W) => he.below hb
  have HN := Lib.hid (new_any 1048576 w (by decide))
  have HM := Lib.hid fun W (hb : Below w.heap.size w W) => hm.up hb
  have HO := Lib.hid fun W (hb : Below w.heap.size w W) i (h : i < ops.length) => ho.at' hb h
  clear he hm ho
  go_enter Tryz.func6, Tryz.ntmps6
  go_wp2_with fail
  refine HN.out.mono ?_
  rintro e w1 ⟨b, L, rfl, hd1, hb1, hf1⟩
  have HGI := Lib.hid (GI.start1 hd1 hb1 hf1)
  clear hd1 hb1 hf1 HN
  go_wp2
  go_loopg [9, 10] 8 (fun gg fv iv wr => ∃ (k : Nat) (D : Dk) (fs : List ByteArray), iv = .int .i64 (k : Nat) ∧ k ≤ l.length ∧ k ≤ 8 ∧ 8 - k ≤ gg ∧ Hid (B1 k D fs) ∧ Hid (GI w wr b D fv (.slice none 0 0) fs []))
  case atStart => exact ⟨0, _, [], rfl, by omega, by omega, by omega, Lib.hid B1.zero, HGI⟩
  case round =>
    clear HGI
    obtain ⟨k, D, fs, rfl, hkl, hk8, hkg, HG, HGI⟩ := hrel
    go_upto_region 6 with fail
    go_cut [57] (fun tv wc => tv = .bool (decide (k < l.length ∧ k < 8)) ∧ wr = wc)
    case first =>
      rcases (by omega : (k < l.length ∧ k < 8) ∨ ¬ k < l.length ∨ (k < l.length ∧ ¬ k < 8)) with ⟨h1, h2⟩ | h1 | ⟨h1, h2⟩
      · have hd : decide (k < l.length ∧ k < 8) = true := decide_eq_true ⟨h1, h2⟩
        go_wp2_with fail
        go_meet
        exact ⟨by first | (rw [hd]; done) | (rw [hd]; simp; omega), rfl⟩
      · have hd : decide (k < l.length ∧ k < 8) = false := decide_eq_false fun h => h1 h.1
        go_wp2_with fail
        go_meet
        exact ⟨by first | (rw [hd]; done) | (rw [hd]; simp; omega), rfl⟩
      · have hd : decide (k < l.length ∧ k < 8) = false := decide_eq_false fun h => h2 h.2
        go_wp2_with fail
        go_meet
        exact ⟨by first | (rw [hd]; done) | (rw [hd]; simp; omega), rfl⟩
    case rest =>
    obtain ⟨rfl, rfl⟩ := hcut
    by_cases hlt : k < l.length ∧ k < 8
    · rw [decide_eq_true hlt]
      obtain ⟨h1, h2⟩ := hlt
      obtain ⟨g, o, rfl, hg, hcc⟩ := HM.out _ HGI.out.bel (by omega)
      obtain ⟨B, c, hcells, hin⟩ := hcc k _ (List.getElem?_eq_getElem h1)
      have q0 : wr.cell? ⟨g, o + k * 5, none⟩ = some (.int .i64 l[k].time) := hcells 0 _ rfl
      have q1 : wr.cell? ⟨g, o + k * 5 + 1, none⟩ = some (.string l[k].tag) := hcells 1 _ rfl
      have q2 : wr.cell? ⟨g, o + k * 5 + 2, none⟩ = some (.string l[k].parent) := hcells 2 _ rfl
      have q3 : wr.cell? ⟨g, o + k * 5 + 3, none⟩ = some (.int .i64 l[k].size) := hcells 3 _ rfl
      have q4 : wr.cell? ⟨g, o + k * 5 + 4, none⟩ = some (.slice B l[k].chunks.length c) := hcells 4 _ rfl
      have HF := Lib.hid (mfew_any l[k] B c wr hin.1 hin.2.1 hin.2.2.1 hin.2.2.2.1)
      have HMB := Lib.hid (hin.2.2.2.2.few)
      have HSM := Lib.hid (small_restL (n := 300000) HG.out.rest (by omega))
      have HMP := Lib.hid (mpublish_rest HG.out.rest (by omega) l[k])
      have HBAD := Lib.hid fun (h : goodM (fewM l[k]) = false) => HG.out.bad h
      have HGOOD := Lib.hid fun (h : goodM (fewM l[k]) = true) => HG.out.good h
      have HTZ := Lib.hid fun (h : goodM (fewM l[k]) = true) => few_size h
      clear hcc hcells hin
      unfold manV at HF
      unfold FewPost manV at HF
      generalize fewM l[k] = fm at *
      generalize l[k] = m at *
      obtain ⟨wo, rfl⟩ : ∃ wo : World, wo = wr := ⟨_, rfl⟩
      go_wp2_with fail
      refine HF.out.mono ?_
      rintro e w2 ⟨A2, c2, rfl, hst2, hb2, hc2, hf2⟩
      have hkd := Blk.new w2 32 #[.int .i64 fm.time, .string fm.tag, .string fm.parent, .int .i64 fm.size, .slice A2 fm.chunks.length c2]
      have hbn : Below w2.heap.size w2 (w2.alloc (.cells #[.int .i64 fm.time, .string fm.tag, .string fm.parent, .int .i64 fm.size, .slice A2 fm.chunks.length c2] 32)) := (Below.refl _ w2).alloc (Nat.le_refl _) _
      have HST2 := Lib.hid (hst2.below hbn)
      have HB2 := Lib.hid (hb2.trans (hbn.mono hb2.size))
      have HK2 := Lib.hid hkd
      have HZ2 := Lib.hid hb2.size
      have HF2 := Lib.hid hf2
      have HC2 := Lib.hid hc2
      clear hst2 hb2 hc2 hf2 hkd hbn q0 q1 q2 q3 q4 HF
      go_upto_region 9 with fail
      generalize w2.alloc (.cells #[.int .i64 fm.time, .string fm.tag, .string fm.parent, .int .i64 fm.size, .slice A2 fm.chunks.length c2] 32) = w3 at *
      have i0 : (w3).cell? ⟨w2.heap.size, 0, none⟩ = some (.int .i64 fm.time) := HK2.out.cell 0
      have i1 : (w3).cell? ⟨w2.heap.size, 1, none⟩ = some (.string fm.tag) := HK2.out.cell 1
      have i2 : (w3).cell? ⟨w2.heap.size, 2, none⟩ = some (.string fm.parent) := HK2.out.cell 2
      have i3 : (w3).cell? ⟨w2.heap.size, 3, none⟩ = some (.int .i64 fm.size) := HK2.out.cell 3
      have i4 : (w3).cell? ⟨w2.heap.size, 4, none⟩ = some (.slice A2 fm.chunks.length c2) := HK2.out.cell 4
      have HPB := Lib.hid (HGI.out.diskK HB2.out fun L h1 => mpublish_any b D L fm A2 c2 w3 h1 (HE.out _ (HGI.out.bel.trans (HB2.out.mono HGI.out.bel.size))) HST2.out HMB.out HC2.out HSM.out)
      rw [HMP.out] at HPB
      unfold manV at HPB
      clear HSM HMP
      go_wp2_with fail
      refine HPB.out.mono ?_
      rintro e w4 ⟨rfl, hg4, hz4, hk4⟩
      have HG4 := Lib.hid hg4
      have HS4 := Lib.hid (HST2.out.kept HF2.out hz4 hk4)
      have HK4 := Lib.hid (show Blk w4 w2.heap.size 32 #[.int .i64 fm.time, .string fm.tag, .string fm.parent, .int .i64 fm.size, .slice A2 fm.chunks.length c2] from (hk4 _ HZ2.out HK2.out.lt).trans HK2.out)
      clear hg4 hz4 hk4 HPB HST2 HK2 HB2 i0 i1 i2 i3 i4 HGI
      have i0 : (w4).cell? ⟨w2.heap.size, 0, none⟩ = some (.int .i64 fm.time) := HK4.out.cell 0
      have i1 : (w4).cell? ⟨w2.heap.size, 1, none⟩ = some (.string fm.tag) := HK4.out.cell 1
      have i2 : (w4).cell? ⟨w2.heap.size, 2, none⟩ = some (.string fm.parent) := HK4.out.cell 2
      have i3 : (w4).cell? ⟨w2.heap.size, 3, none⟩ = some (.int .i64 fm.size) := HK4.out.cell 3
      have i4 : (w4).cell? ⟨w2.heap.size, 4, none⟩ = some (.slice A2 fm.chunks.length c2) := HK4.out.cell 4
      have CG := Lib.hid (mgood_any fm A2 c2 w4 (HE.out _ HG4.out.bel) HS4.out HMB.out)
      have CT := Lib.hid fun W (h1 : StrsA W W.heap.size A2 fm.chunks) (h2 : goodM fm = true) => rtext_any fm A2 c2 W h1 h2
      unfold manV at CG CT
      cases hgood : goodM fm with
      | false =>
        obtain ⟨hpm, hbb⟩ := HBAD.out hgood
        rw [hgood] at CG
        simp only [Bool.false_eq_true, if_false]
        have HR := Lib.hid hbb
        clear hbb HBAD HGOOD HTZ CT
        go_wp2_with fail
        refine CG.out.mono ?_
        rintro e w5 ⟨rfl, hb5⟩
        have HG5 := Lib.hid (show GI w w5 b D u9 (.slice none 0 0) fs [] from by rw [← hpm]; exact HG4.out.up hb5)
        clear hb5 HG4 HS4 HK4 CG hpm i0 i1 i2 i3 i4 hgood
        go_wp2
        go_roundg (8 - (k + 1))
        case measure => omega
        case rel => exact ⟨k + 1, D, fs, by go_num, by omega, by omega, Nat.le_refl _, HR, HG5⟩
      | true =>
        have HR := Lib.hid (HGOOD.out hgood)
        have HTZ2 := Lib.hid (HTZ.out hgood)
        have HGT := Lib.hid hgood
        rw [hgood] at CG
        simp only [if_true]
        clear HBAD HGOOD HTZ hgood
        go_wp2_with fail
        refine CG.out.mono ?_
        rintro e w5 ⟨rfl, hb5⟩
        have HG5 := Lib.hid (HG4.out.up hb5)
        have HS5 := Lib.hid (HS4.out.below hb5)
        have HK5 := Lib.hid (HK4.out.below hb5 HK4.out.lt)
        clear hb5 HG4 HS4 HK4 CG i0 i1 i2 i3 i4
        have i0 : (w5).cell? ⟨w2.heap.size, 0, none⟩ = some (.int .i64 fm.time) := HK5.out.cell 0
        have i1 : (w5).cell? ⟨w2.heap.size, 1, none⟩ = some (.string fm.tag) := HK5.out.cell 1
        have i2 : (w5).cell? ⟨w2.heap.size, 2, none⟩ = some (.string fm.parent) := HK5.out.cell 2
        have i3 : (w5).cell? ⟨w2.heap.size, 3, none⟩ = some (.int .i64 fm.size) := HK5.out.cell 3
        have i4 : (w5).cell? ⟨w2.heap.size, 4, none⟩ = some (.slice A2 fm.chunks.length c2) := HK5.out.cell 4
        have CT5 := Lib.hid (CT.out w5 HS5.out HGT.out)
        clear CT HS5 HK5
        go_wp2_with fail
        refine CT5.out.mono ?_
        rintro e w6 ⟨rfl, hb6⟩
        have HG6 := Lib.hid (HG5.out.up hb6)
        have CD := Lib.hid (ddigest_any (bs (manL fm)) w6 (by have := HTZ2.out; omega))
        have hnz := nameS_size (bs (manL fm))
        clear hb6 HG5 CT5 HGT HTZ2
        generalize nameS (bs (manL fm)) = nm at *
        generalize bs (manL fm) = tx at *
        have hss : (nm.toList == nm.toList) = true := by simp
        have hadd := fun W => run_string_add_sum (P := Tryz.prog) W (⟨#[115]⟩ : ByteArray) nm (by rw [hnz]; decide)
        go_wp2_with fail
        refine CD.out.mono ?_
        rintro e w7 ⟨rfl, hb7⟩
        have HG7 := Lib.hid (HG6.out.up hb7)
        clear hb7 HG6 CD
        have hown := HG7.out.elim fun _ h => h.2.2.2.1
        have hzw := HG7.out.bel.size
        have hal := HG.out.len
        go_wp2_with (at_builtin; refine wpList_app1 rfl _ _ 30 rfl w.heap.size 9 Tryz.underlying30 infoS rfl (by decide) _ _ _ rfl hown _ rfl rfl (oneCell_string _) (by omega) (by omega) hzw ?_; intro g5 c5 w8 ho5 hg5 hb5 hl5)
        have HG8 := Lib.hid (HG7.out.appA ho5 hg5 hb5 hl5)
        clear ho5 hg5 hb5 hl5 HG7 hown
        go_wp2
        go_roundg (8 - (k + 1))
        case measure => omega
        case rel => exact ⟨k + 1, D.pubM fm, fs ++ [(⟨#[115]⟩ : ByteArray) ++ nm], by go_num, by omega, by omega, Nat.le_refl _, HR, HG8⟩
    · rw [decide_eq_false hlt]
      obtain ⟨Af, cf, hfv, _, hcf⟩ := HGI.out.formA
      subst hfv
      have hfl := HG.out.len
      have HFZ := Lib.hid HG.out.siz
      have HSZ := Lib.hid (show SzI (8 + 0) (2200 + 60 * 0) D from ⟨HG.out.szi.fs, Nat.le_trans HG.out.szi.fo hk8, Nat.le_trans HG.out.szi.st hk8, Nat.le_trans HG.out.szi.fl hk8⟩)
      clear HG hlt
      go_wp2
      go_loopg [14] 12 (fun gg iv wr => ∃ (k : Nat) (D : Dk), iv = .int .i64 (k : Nat) ∧ k ≤ ops.length ∧ k ≤ 12 ∧ 12 - k ≤ gg ∧ Hid (SzI (8 + k) (2200 + 60 * k) D) ∧ Hid (GI w wr b D (.slice Af fs.length cf) (.slice none 0 0) fs []))
      case atStart => exact ⟨0, D, rfl, by omega, by omega, by omega, HSZ, HGI⟩
      case round =>
        clear HGI HSZ
        obtain ⟨q, E, rfl, hql, hq12, hqg, HSZ, HGI⟩ := hrel
        go_upto_region 17 with fail
        go_cut [95] (fun tv wc => tv = .bool (decide (q < ops.length ∧ q < 12)) ∧ wr = wc)
        case first =>
          rcases (by omega : (q < ops.length ∧ q < 12) ∨ ¬ q < ops.length ∨ (q < ops.length ∧ ¬ q < 12)) with ⟨h1, h2⟩ | h1 | ⟨h1, h2⟩
          · have hd : decide (q < ops.length ∧ q < 12) = true := decide_eq_true ⟨h1, h2⟩
            go_wp2_with fail
            go_meet
            exact ⟨by first | (rw [hd]; done) | (rw [hd]; simp; omega), rfl⟩
          · have hd : decide (q < ops.length ∧ q < 12) = false := decide_eq_false fun h => h1 h.1
            go_wp2_with fail
            go_meet
            exact ⟨by first | (rw [hd]; done) | (rw [hd]; simp; omega), rfl⟩
          · have hd : decide (q < ops.length ∧ q < 12) = false := decide_eq_false fun h => h2 h.2
            go_wp2_with fail
            go_meet
            exact ⟨by first | (rw [hd]; done) | (rw [hd]; simp; omega), rfl⟩
        case rest =>
        obtain ⟨rfl, rfl⟩ := hcut
        by_cases hlt : q < ops.length ∧ q < 12
        · rw [decide_eq_true hlt]
          obtain ⟨h1, h2⟩ := hlt
          obtain ⟨g, o, rfl, hok, hcells⟩ := HO.out wr HGI.out.bel q h1
          have hshp := hok.shp
          have HOK := Lib.hid hok
          generalize ops[q] = x at *
          obtain ⟨kind, src, dst, at', kv, ks⟩ := x
          have hsh : ∃ ka kn kc, kv = .slice ka kn kc := by
            rcases hshp with ⟨_, _, _, h⟩ | h
            · exact ⟨_, _, _, h⟩
            · exact ⟨_, _, _, h⟩
          obtain ⟨ka, kn, kc, rfl⟩ := hsh
          clear hshp
          have q0 : wr.cell? ⟨g, o + q * 5, none⟩ = some (.int .i64 kind) := hcells 0 _ rfl
          have q1 : wr.cell? ⟨g, o + q * 5 + 1, none⟩ = some (.string src) := hcells 1 _ rfl
          have q2 : wr.cell? ⟨g, o + q * 5 + 2, none⟩ = some (.string dst) := hcells 2 _ rfl
          have q3 : wr.cell? ⟨g, o + q * 5 + 3, none⟩ = some (.int .i64 at') := hcells 3 _ rfl
          have q4 : wr.cell? ⟨g, o + q * 5 + 4, none⟩ = some (.slice ka kn kc) := hcells 4 _ rfl
          clear hcells hok
          have hkd := Blk.new wr 57 #[.int .i64 kind, .string src, .string dst, .int .i64 at', .slice ka kn kc]
          have hbn : Below wr.heap.size wr (wr.alloc (.cells #[.int .i64 kind, .string src, .string dst, .int .i64 at', .slice ka kn kc] 57)) := (Below.refl _ wr).alloc (Nat.le_refl _) _
          have HK2 := Lib.hid hkd
          have HB2 := Lib.hid hbn
          clear hkd hbn
          obtain ⟨wo, rfl⟩ : ∃ wo : World, wo = wr := ⟨_, rfl⟩
          go_upto_region 20 with fail
          generalize wo.alloc (.cells #[.int .i64 kind, .string src, .string dst, .int .i64 at', .slice ka kn kc] 57) = w2 at *
          have i3 : (w2).cell? ⟨wo.heap.size, 3, none⟩ = some (.int .i64 at') := HK2.out.cell 3
          clear q0 q1 q2 q3 q4
          by_cases hf : 0 < fs.length ∧ 0 ≤ at'
          · obtain ⟨hf1, hf2⟩ := hf
            obtain ⟨n, rfl⟩ : ∃ n : Nat, at' = n := ⟨at'.toNat, by omega⟩
            have HG2 := Lib.hid (HGI.out.up HB2.out)
            have hsa : StrsA w2 w2.heap.size Af fs := by
              obtain ⟨A', c', e1, e2, _⟩ := HG2.out.formA
              injection e1 with e1 _ _
              rw [e1]; exact e2
            obtain ⟨ga, oa, rfl, _, hfc⟩ := hsa hf1
            have hml : n % fs.length < fs.length := Nat.mod_lt _ hf1
            have hfx := hfc _ _ (List.getElem?_eq_getElem hml)
            have HFX := Lib.hid (HFZ.out fs[n % fs.length] (List.getElem_mem hml))
            generalize fs[n % fs.length] = fx at *
            have hmod : Int.tmod (n : Int) (fs.length : Int) = ((n % fs.length : Nat) : Int) := by rw [Int.tmod_eq_emod_of_nonneg (by omega)]; exact (Int.natCast_emod n fs.length).symm
            have hf3 : (fs.length : Int) ≠ 0 := by omega
            have f1 := HK2.out.frozen 1
            have i1 : (w2).cell? ⟨wo.heap.size, 1, none⟩ = some (.string src) := HK2.out.cell 1
            have hk3 := HK2.out.set_ 1 (.string fx)
            have HB3 := Lib.hid (HB2.out.setCell (p := ⟨wo.heap.size, 1, none⟩) (Nat.le_refl _) (.string fx))
            clear hfc
            generalize n % fs.length = nm at *
            go_upto_region 22 with fail
            have HK3 := Lib.hid (show Blk (w2.setCell ⟨wo.heap.size, 1, none⟩ (.string fx)) wo.heap.size 57 #[.int .i64 kind, .string fx, .string dst, .int .i64 n, .slice ka kn kc] from hk3)
            clear hk3 i3 i1 f1 hfx HG2 HK2 HB2
            generalize w2.setCell ⟨wo.heap.size, 1, none⟩ (.string fx) = w3 at *
            have i0 : (w3).cell? ⟨wo.heap.size, 0, none⟩ = some (.int .i64 kind) := HK3.out.cell 0
            have i1 : (w3).cell? ⟨wo.heap.size, 1, none⟩ = some (.string fx) := HK3.out.cell 1
            have i2 : (w3).cell? ⟨wo.heap.size, 2, none⟩ = some (.string dst) := HK3.out.cell 2
            have i3 : (w3).cell? ⟨wo.heap.size, 3, none⟩ = some (.int .i64 n) := HK3.out.cell 3
            have i4 : (w3).cell? ⟨wo.heap.size, 4, none⟩ = some (.slice ka kn kc) := HK3.out.cell 4
            have HD := Lib.hid ((HGI.out.up HB3.out).disk fun L hL => do_any b E L ⟨kind, fx, dst, n, (.slice ka kn kc), ks⟩ w3 hL ((HOK.out.up HB3.out).to (s := fx) (by have := HFX.out; omega)) (HSZ.out.small (by omega)))
            have HS3 := Lib.hid (show SzI (8 + (q + 1)) (2200 + 60 * (q + 1)) (dkDo E ⟨kind, fx, dst, n, (.slice ka kn kc), ks⟩).1 from by rw [Nat.mul_succ, ← Nat.add_assoc, ← Nat.add_assoc]; exact HSZ.out.do' _)
            unfold Op14.cells at HD
            simp only at HD
            clear HGI HSZ HK3 HB3 HOK
            generalize dkDo E ⟨kind, fx, dst, n, (.slice ka kn kc), ks⟩ = r at *
            go_wp2_with fail
            refine HD.out.mono ?_
            rintro e w4 ⟨rfl, hg4⟩
            have HG4 := Lib.hid hg4
            clear hg4 HD i0 i1 i2 i3 i4
            go_wp2
            go_roundg (12 - (q + 1))
            case measure => omega
            case rel => exact ⟨q + 1, r.1, by go_num, by omega, by omega, Nat.le_refl _, HS3, HG4⟩
          · have i0 : (w2).cell? ⟨wo.heap.size, 0, none⟩ = some (.int .i64 kind) := HK2.out.cell 0
            have i1 : (w2).cell? ⟨wo.heap.size, 1, none⟩ = some (.string src) := HK2.out.cell 1
            have i2 : (w2).cell? ⟨wo.heap.size, 2, none⟩ = some (.string dst) := HK2.out.cell 2
            have i4 : (w2).cell? ⟨wo.heap.size, 4, none⟩ = some (.slice ka kn kc) := HK2.out.cell 4
            have HD := Lib.hid ((HGI.out.up HB2.out).disk fun L hL => do_any b E L ⟨kind, src, dst, at', (.slice ka kn kc), ks⟩ w2 hL (HOK.out.up HB2.out) (HSZ.out.small (by omega)))
            have HS3 := Lib.hid (show SzI (8 + (q + 1)) (2200 + 60 * (q + 1)) (dkDo E ⟨kind, src, dst, at', (.slice ka kn kc), ks⟩).1 from by rw [Nat.mul_succ, ← Nat.add_assoc, ← Nat.add_assoc]; exact HSZ.out.do' _)
            unfold Op14.cells at HD
            simp only at HD
            clear HGI HSZ HK2 HB2 HOK
            generalize dkDo E ⟨kind, src, dst, at', (.slice ka kn kc), ks⟩ = r at *
            rcases (by omega : ¬ 0 < fs.length ∨ (0 < fs.length ∧ ¬ 0 ≤ at')) with hf1 | ⟨hf1, hf2⟩
            all_goals
              clear hf
              go_wp2_with fail
              refine HD.out.mono ?_
              rintro e w4 ⟨rfl, hg4⟩
              have HG4 := Lib.hid hg4
              clear hg4 HD i0 i1 i2 i3 i4
              go_wp2
              go_roundg (12 - (q + 1))
              case measure => omega
              case rel => exact ⟨q + 1, r.1, by go_num, by omega, by omega, Nat.le_refl _, HS3, HG4⟩
        · rw [decide_eq_false hlt]
          clear hlt HO HFZ HM
          have HSZ2 := Lib.hid (show (∀ i, (E.flAt i).data.size ≤ 3000) ∧ E.folder.length ≤ 1000000 from ⟨fun i => by have := HSZ.out.at' i; omega, by have := HSZ.out.fo; omega⟩)
          have HGB := Lib.hid HGI.out.bel
          have HGD := Lib.hid (HGI.out.elim fun L h => (⟨L, h.1⟩ : ∃ L, DiskAt wr b E L))
          clear HGI HSZ
          obtain ⟨L, hdk⟩ := HGD.out
          have HDK := Lib.hid hdk
          clear HGD hdk
          cases hdd : E.dead with
          | true =>
            have HLI := Lib.hid (mlist_dead b E L wr HDK.out hdd)
            go_wp2_with fail
            refine HLI.out.mono ?_
            rintro e w2 ⟨rfl, hb2⟩
            have HLS := Lib.hid (list_dead b E L w2 (HDK.out.below hb2) hdd)
            have HB2 := Lib.hid (HGB.out.trans (hb2.mono HGB.out.size))
            clear hb2 HLI HDK
            go_wp2_with fail
            refine HLS.out.mono ?_
            rintro e w3 ⟨rfl, rfl⟩
            have HAW := Lib.hid (awake19_any w2 (HE.out _ HB2.out))
            clear HLS
            go_wp2_with fail
            refine HAW.out.mono ?_
            rintro e w4 ⟨rfl, hb4⟩
            have HB4 := Lib.hid (HB2.out.trans (hb4.mono HB2.out.size))
            clear hb4 HAW HB2
            go_wp2
            go_ret
            exact ⟨rfl, HB4.out⟩
          | false =>
            have HLI := Lib.hid (mlist_any b E L wr HDK.out (HE.out _ HGB.out) hdd HSZ2.out.2)
            unfold MListPost at HLI
            go_wp2_with fail
            refine HLI.out.mono ?_
            rintro e w2 ⟨As, cs, Bb, db, rfl, hsn, hbd, _, _, _, _, hb2⟩
            have HLS := Lib.hid (list_any b E L w2 (HDK.out.below hb2) hdd HSZ2.out.2)
            have HB2 := Lib.hid (HGB.out.trans (hb2.mono HGB.out.size))
            have HSN2 := Lib.hid hsn
            have HBD2 := Lib.hid hbd
            have HDK2 := Lib.hid (HDK.out.below hb2)
            clear hb2 hsn hbd HLI HDK HGB
            go_wp2_with fail
            refine HLS.out.mono ?_
            rintro e w3 ⟨lv, rfl, hown, hb3⟩
            obtain ⟨Al, cl, rfl, _⟩ := own_form hown
            have HST3 := Lib.hid (own_strs hown).1
            have HB3 := Lib.hid (HB2.out.trans (hb3.mono HB2.out.size))
            have HSN3 := Lib.hid (HSN2.out.up hb3)
            have HBD3 := Lib.hid (HBD2.out.below hb3)
            have HDK3 := Lib.hid (HDK2.out.below hb3)
            have HAW := Lib.hid (awake19_any w3 (HE.out _ HB3.out))
            clear hb3 hown HLS HB2 HSN2 HBD2 HDK2
            have hln : (kvNames E.folder).length ≤ 1000000 := by rw [kvNames_len]; exact HSZ2.out.2
            have hsl : E.snaps.length ≤ (kvNames E.folder).length := by rw [← okN_is hdd HDK3.out.ok.fap]; exact okN_len _ _
            have hbl : E.bads.length ≤ (kvNames E.folder).length := by rw [← spoL_is hdd HDK3.out.ok.fap]; exact spoL_len _ _
            have HSPL := Lib.hid (spoL_is hdd HDK3.out.ok.fap)
            have HOKN := Lib.hid (okN_is hdd HDK3.out.ok.fap)
            have HNAM := Lib.hid fun n (hn : n ∈ kvNames E.folder) => (show n.size ≤ 80 from by
              obtain ⟨v, hv⟩ := kvNames_mem hn
              exact HDK3.out.ok.nam _ hv)
            have HSOK := Lib.hid fun n (hn : n ∈ kvNames E.folder) (hp : isP frontS n = true) => (spo_ok hdd HDK3.out.ok.fap hn hp).2
            have HHAS := Lib.hid fun n (hn : n ∈ kvNames E.folder) (hp : isP frontS n = true) (hs : E.spo n = false) => snaps_has hdd HDK3.out.ok.fap hn hp hs
            have HUP := Lib.hid fun p q x y (hx : E.snaps[p]? = some x) (hy : E.snaps[q]? = some y) (h : p < q) => (show ltSn x y from by
              obtain ⟨h1, rfl⟩ := List.getElem?_eq_some_iff.1 hx
              obtain ⟨h2, rfl⟩ := List.getElem?_eq_some_iff.1 hy
              exact snaps_up HDK3.out.ok.fap h2 h)
            clear hdd
            generalize hall : kvNames E.folder = all at *
            generalize E.snaps = sn at *
            generalize E.bads = bd at *
            clear hall
            go_wp2_with fail
            refine HAW.out.mono ?_
            rintro e wl ⟨rfl, hb4⟩
            have HBL := Lib.hid (HB3.out.trans (hb4.mono HB3.out.size))
            have HSN := Lib.hid (HSN3.out.up hb4)
            have HBD := Lib.hid (HBD3.out.below hb4)
            have HDK := Lib.hid (HDK3.out.below hb4)
            have HST := Lib.hid (HST3.out.below hb4)
            clear hb4 HAW HB3 HSN3 HBD3 HDK3 HST3
            have HDW := Lib.hid fun W (hb : Below wl.heap.size wl W) => HDK.out.below hb
            have HEW := Lib.hid fun W (hb : Below wl.heap.size wl W) => HE.out W (HBL.out.trans (hb.mono HBL.out.size))
            clear HE HDK
            have hoe := own_emptyL (w := wl) (B := wl.heap.size) (t := 9) (Nat.le_refl _)
            have HOW := Lib.hid hoe
            have HB0 := Lib.hid ((Below.refl _ wl).alloc (Nat.le_refl _) (.cells #[] 9) : Below wl.heap.size wl (wl.alloc (.cells #[] 9)))
            clear hoe
            go_wp2
            go_loopg [21, 22, 160] all.length (fun gg sv nv iv W => ∃ j : Nat, iv = .int .i64 (j : Nat) ∧ j ≤ all.length ∧ all.length - j ≤ gg ∧ nv = .int .i64 (E.okN (all.take j) : Nat) ∧ Hid (W.ownsRow wl.heap.size 9 1 sv (E.spoL (all.take j)).length ((E.spoL (all.take j)).map .string)) ∧ Hid (Below wl.heap.size wl W))
            case atStart => exact ⟨0, rfl, Nat.zero_le _, by omega, rfl, HOW, HB0⟩
            case round =>
              clear HOW HB0
              obtain ⟨j, rfl, hj, hjg, rfl, HOW, HB0⟩ := hrel
              have hok1 := okN_len E (all.take j)
              have hsp1 := spoL_len E (all.take j)
              rw [List.length_take] at hok1 hsp1
              by_cases hjl : j < all.length
              · have hmem := List.getElem_mem hjl
                obtain ⟨gl, ol, rfl, hgl, hlc⟩ := HST.out (by omega)
                have cn0 := hlc j _ (List.getElem?_eq_getElem hjl)
                have cn : wr.cell? ⟨gl, ol + j, none⟩ = some (.string all[j]) := (HB0.out.cell (p := ⟨gl, ol + j, none⟩) hgl).trans cn0
                have hnz := HNAM.out _ hmem
                have HSO := Lib.hid fun hp hs => HSOK.out _ hmem hp hs
                have HHA := Lib.hid fun hp hs => HHAS.out _ hmem hp hs
                have HS1 := Lib.hid (spoL_succ E all hjl)
                have HO1 := Lib.hid (okN_succ E all hjl)
                have HFR := Lib.hid fun (hp : isP frontS all[j] = true) => isP_front hp
                have HIS := Lib.hid (ris_any all[j] wr (by omega))
                rw [show frontS = (⟨#[115]⟩ : ByteArray) from rfl] at HIS
                clear hlc cn0 hmem
                generalize all[j] = nm at *
                obtain ⟨wo, rfl⟩ : ∃ wo : World, wo = wr := ⟨_, rfl⟩
                go_wp2_with fail
                refine HIS.out.mono ?_
                rintro e w5 ⟨rfl, hb5⟩
                have HO5 := Lib.hid (ownsRow_below HOW.out hb5)
                have HB5 := Lib.hid (HB0.out.trans (hb5.mono HB0.out.size))
                clear hb5 HIS HOW HB0 cn
                cases hip : isP (⟨#[115]⟩ : ByteArray) nm with
                | false =>
                  have hip2 : isP frontS nm = false := hip
                  rw [hip2] at HS1 HO1
                  simp only [Bool.false_and, Bool.false_eq_true, if_false, List.append_nil, Nat.add_zero] at HS1 HO1
                  clear hip hip2 HSO HHA HFR
                  go_wp2
                  go_roundg (all.length - (j + 1))
                  case measure => omega
                  case rel => exact ⟨j + 1, by go_num, by omega, Nat.le_refl _, by rw [HO1.out], Lib.hid (by rw [HS1.out]; exact HO5.out), HB5⟩
                | true =>
                  have hip2 : isP frontS nm = true := hip
                  rw [hip2] at HS1 HO1
                  simp only [Bool.true_and] at HS1 HO1
                  have hn1 := HFR.out hip2
                  have HSO2 := Lib.hid fun hs => HSO.out hip2 hs
                  have HHA2 := Lib.hid fun hs => HHA.out hip2 hs
                  have HSD := Lib.hid (show E.spo nm = (!decide (frontS ++ nameS (E.read nm).1 = nm) || !decide ((decS (E.read nm).1).2 = 0)) from rfl)
                  have HRD := Lib.hid (read_any b E L nm w5 (HDW.out _ HB5.out) (by omega))
                  have hrz := load_at HSZ2.out.1 nm
                  clear hip hip2 HSO HHA HFR
                  generalize E.read nm = rd at *
                  obtain ⟨s, rc⟩ := rd
                  simp only at HSO2 HHA2 HSD HRD hrz
                  go_wp2_with fail
                  refine HRD.out.mono ?_
                  rintro e w6 ⟨rfl, rfl⟩
                  have CRX := Lib.hid (rread_any s w5 (HEW.out _ HB5.out) (by omega))
                  have HSL := Lib.hid (nameS_size s)
                  unfold DecPost manV at CRX
                  generalize hds : decS s = ds at *
                  clear hds
                  obtain ⟨X, kd⟩ := ds
                  simp only at CRX HSO2 HHA2 HSD
                  clear HRD
                  go_wp2_with fail
                  refine CRX.out.mono ?_
                  rintro e w7 ⟨Ag, cg, rfl, hsg, hbg, hlg, hmg⟩
                  have hkg := Blk.new w7 54 #[.int .i64 X.time, .string X.tag, .string X.parent, .int .i64 X.size, .slice Ag X.chunks.length cg]
                  have hbn : Below w7.heap.size w7 (w7.alloc (.cells #[.int .i64 X.time, .string X.tag, .string X.parent, .int .i64 X.size, .slice Ag X.chunks.length cg] 54)) := (Below.refl _ w7).alloc (Nat.le_refl _) _
                  have HK8 := Lib.hid hkg
                  have HSG8 := Lib.hid (hsg.below hbn)
                  have hb8 := hbg.trans (hbn.mono hbg.size)
                  have HO8 := Lib.hid (ownsRow_below HO5.out hb8)
                  have HB8 := Lib.hid (HB5.out.trans (hb8.mono HB5.out.size))
                  have HMG := Lib.hid hmg
                  clear hsg hbg hlg hmg hkg hbn hb8 HO5 HB5 CRX
                  go_upto_region 37 with fail
                  generalize w7.alloc (.cells #[.int .i64 X.time, .string X.tag, .string X.parent, .int .i64 X.size, .slice Ag X.chunks.length cg] 54) = w8 at *
                  go_cut [186] (fun tv wc => tv = .bool (E.spo nm) ∧ Below w8.heap.size w8 wc)
                  case first =>
                    have CD := Lib.hid (ddigest_any s w8 (by omega))
                    rw [show frontS = (⟨#[115]⟩ : ByteArray) from rfl] at HSD
                    have hadd := fun W => run_string_add_sum (P := Tryz.prog) W (⟨#[115]⟩ : ByteArray) (nameS s) (by rw [HSL.out]; decide)
                    have hx := str_eqb ((⟨#[115]⟩ : ByteArray) ++ nameS s) nm
                    clear HSO2 HHA2 HS1 HO1
                    generalize nameS s = dn at *
                    generalize (⟨#[115]⟩ : ByteArray) ++ dn = fn at *
                    generalize decide (fn = nm) = b1 at *
                    go_wp2_with fail
                    refine CD.out.mono ?_
                    rintro e w9 ⟨rfl, hb9⟩
                    have HB9 := Lib.hid hb9
                    clear hb9 CD
                    cases b1 with
                    | false =>
                      go_wp2_with fail
                      go_meet
                      exact ⟨by rw [HSD.out]; rfl, HB9.out⟩
                    | true =>
                      by_cases hkd : kd = 0
                      · subst hkd
                        go_wp2_with fail
                        go_meet
                        exact ⟨by rw [HSD.out]; rfl, HB9.out⟩
                      · have hkb : (kd != 0) = true := by simpa using hkd
                        rw [decide_eq_false hkd] at HSD
                        go_wp2_with fail
                        go_meet
                        exact ⟨by rw [HSD.out]; rfl, HB9.out⟩
                  case rest =>
                  clear HSD HSL
                  obtain ⟨rfl, hbc⟩ := hcut
                  have HO9 := Lib.hid (ownsRow_below HO8.out hbc)
                  have HB9 := Lib.hid (HB8.out.trans (hbc.mono HB8.out.size))
                  have HK9 := Lib.hid (HK8.out.below hbc HK8.out.lt)
                  have HSG9 := Lib.hid (HSG8.out.below hbc)
                  clear hbc HO8 HB8 HK8 HSG8
                  obtain ⟨wq, rfl⟩ : ∃ wq : World, wq = wc := ⟨_, rfl⟩
                  have HID := Lib.hid (show idOf nm = nm.extract 1 nm.size from rfl)
                  rw [HID.out] at HS1 HSO2 HHA2
                  have hidz : (nm.extract 1 nm.size).size ≤ 80 := by rw [ByteArray.size_extract]; omega
                  clear HID
                  cases hsp : E.spo nm with
                  | true =>
                    rw [hsp] at HS1 HO1
                    simp only [Bool.not_true, Bool.false_eq_true, if_false, if_true, Nat.add_zero] at HS1 HO1
                    clear HSO2 HHA2 hsp
                    have hown := HO9.out
                    have hzw := HB9.out.size
                    go_wp2_with (at_builtin; refine wpList_app1 rfl _ _ 30 rfl wl.heap.size 9 Tryz.underlying30 infoS rfl (by decide) _ _ _ rfl hown _ rfl rfl (oneCell_string _) (by omega) (by omega) hzw ?_; intro g5 c5 w10 ho5 hg5 hb5 hl5)
                    have HO10 := Lib.hid (show w10.ownsRow wl.heap.size 9 1 (.slice (some ⟨g5, 0, none⟩) ((E.spoL (all.take j)).length + 1) c5) (E.spoL (all.take (j + 1))).length ((E.spoL (all.take (j + 1))).map .string) from by
                      rw [HS1.out, List.length_append, List.map_append]
                      exact ho5)
                    have HB10 := Lib.hid (HB9.out.trans hb5)
                    clear ho5 hg5 hb5 hl5 hown HO9 HB9 HK9 HSG9
                    go_wp2
                    go_roundg (all.length - (j + 1))
                    case measure => omega
                    case rel => exact ⟨j + 1, by go_num, by omega, Nat.le_refl _, by rw [HO1.out], HO10, HB10⟩
                  | false =>
                    rw [hsp] at HS1 HO1
                    simp only [Bool.not_false, Bool.false_eq_true, if_false, if_true, List.append_nil] at HS1 HO1
                    have HLO := Lib.hid (HSO2.out hsp)
                    have HAN := Lib.hid (show sn.any (fun x => eqS x.id x.t (E.tagOf x.id) (nm.extract 1 nm.size) X.time X.tag) = true from by
                      obtain ⟨x, hx, e1, e2, e3⟩ := HHA2.out hsp
                      refine List.any_eq_true.2 ⟨x, hx, ?_⟩
                      unfold eqS
                      rw [decide_eq_true e1, decide_eq_true e2, decide_eq_true e3]
                      rfl)
                    clear HSO2 HHA2 hsp
                    go_wp2
                    go_loopg [29, 196] sn.length (fun gg hv iv W => ∃ i : Nat, iv = .int .i64 (i : Nat) ∧ i ≤ sn.length ∧ sn.length - i ≤ gg ∧ hv = .bool ((sn.take i).any (fun x => eqS x.id x.t (E.tagOf x.id) (nm.extract 1 nm.size) X.time X.tag)) ∧ Hid (Below wq.heap.size wq W))
                    case atStart => exact ⟨0, rfl, Nat.zero_le _, by omega, rfl, Lib.hid (Below.refl _ _)⟩
                    case round =>
                      obtain ⟨i, rfl, hi, hig, rfl, HBQ⟩ := hrel
                      by_cases hil : i < sn.length
                      · obtain ⟨gs, rfl, hgs, hh⟩ := HSN.out (by omega)
                        obtain ⟨x0, x1, x2⟩ := sn_cells hh hil
                        have HBR := Lib.hid (HB9.out.trans (HBQ.out.mono HB9.out.size))
                        have y0 : wr.cell? ⟨gs, i * 3, none⟩ = some (.string sn[i].id) := (HBR.out.cell (p := ⟨gs, i * 3, none⟩) hgs).trans x0
                        have y1 : wr.cell? ⟨gs, i * 3 + 1, none⟩ = some (.int .i64 sn[i].t) := (HBR.out.cell (p := ⟨gs, i * 3 + 1, none⟩) hgs).trans x1
                        have y2 : wr.cell? ⟨gs, i * 3 + 2, none⟩ = some (.string (E.tagOf sn[i].id)) := (HBR.out.cell (p := ⟨gs, i * 3 + 2, none⟩) hgs).trans x2
                        have HKR := Lib.hid (HK9.out.below HBQ.out HK9.out.lt)
                        have HT := Lib.hid (show (sn.take (i + 1)).any (fun x => eqS x.id x.t (E.tagOf x.id) (nm.extract 1 nm.size) X.time X.tag) = ((sn.take i).any (fun x => eqS x.id x.t (E.tagOf x.id) (nm.extract 1 nm.size) X.time X.tag) || eqS sn[i].id sn[i].t (E.tagOf sn[i].id) (nm.extract 1 nm.size) X.time X.tag) from by
                          rw [List.take_succ_eq_append_getElem hil, List.any_append]
                          simp)
                        clear x0 x1 x2 hh HBR
                        generalize (E.tagOf sn[i].id) = xg at *
                        generalize (sn[i].id) = xi at *
                        generalize (sn[i].t) = xt at *
                        have hkx := Blk.new wr 38 #[.string xi, .int .i64 xt, .string xg]
                        have hbx : Below wr.heap.size wr (wr.alloc (.cells #[.string xi, .int .i64 xt, .string xg] 38)) := (Below.refl _ wr).alloc (Nat.le_refl _) _
                        have HBX := Lib.hid (HBQ.out.trans (hbx.mono HBQ.out.size))
                        have HKX := Lib.hid (HKR.out.below hbx HKR.out.lt)
                        have HKY := Lib.hid hkx
                        clear hkx hbx HKR
                        obtain ⟨wz, rfl⟩ : ∃ wz : World, wz = wr := ⟨_, rfl⟩
                        generalize hbt : (sn.take i).any (fun x => eqS x.id x.t (E.tagOf x.id) (nm.extract 1 nm.size) X.time X.tag) = bt at *
                        clear hbt
                        go_upto_region 44 with fail
                        generalize wz.alloc (.cells #[.string xi, .int .i64 xt, .string xg] 38) = wx at *
                        have k0 : wx.cell? ⟨wz.heap.size, 0, none⟩ = some (.string xi) := HKY.out.cell 0
                        have k1 : wx.cell? ⟨wz.heap.size, 1, none⟩ = some (.int .i64 xt) := HKY.out.cell 1
                        have k2 : wx.cell? ⟨wz.heap.size, 2, none⟩ = some (.string xg) := HKY.out.cell 2
                        have j0 : wx.cell? ⟨w7.heap.size, 0, none⟩ = some (.int .i64 X.time) := HKX.out.cell 0
                        have j1 : wx.cell? ⟨w7.heap.size, 1, none⟩ = some (.string X.tag) := HKX.out.cell 1
                        clear y0 y1 y2
                        cases bt with
                        | true =>
                          go_quiet (fail)
                          have HBN := Lib.hid (HBX.out.trans (Go.below_drewN (Below.refl _ wx) nq))
                          go_wp2
                          go_roundg (sn.length - (i + 1))
                          case measure => omega
                          case rel => exact ⟨i + 1, by go_num, by omega, Nat.le_refl _, by rw [HT.out]; rfl, HBN⟩
                        | false =>
                          go_quiet (fail)
                          have HBN := Lib.hid (HBX.out.trans (Go.below_drewN (Below.refl _ wx) nq))
                          go_wp2
                          go_roundg (sn.length - (i + 1))
                          case measure => omega
                          case rel => exact ⟨i + 1, by go_num, by omega, Nat.le_refl _, by rw [HT.out]; rfl, HBN⟩
                      · obtain rfl : i = sn.length := by omega
                        rw [List.take_length, HAN.out]
                        have HBR := Lib.hid (HB9.out.trans (HBQ.out.mono HB9.out.size))
                        have HOR := Lib.hid (ownsRow_below HO9.out HBQ.out)
                        have HKR := Lib.hid (HK9.out.below HBQ.out HK9.out.lt)
                        have HSR := Lib.hid (HSG9.out.below HBQ.out)
                        have HLD := Lib.hid (mload_any b E L (nm.extract 1 nm.size) wr (HDW.out _ HBR.out) (HEW.out _ HBR.out) (by omega))
                        have hxl := HMG.out
                        rw [HLO.out] at HLD
                        unfold MLoadPost manV at HLD
                        clear HBQ HO9 HK9 HSG9 HB9 HAN HLO
                        obtain ⟨wz, rfl⟩ : ∃ wz : World, wz = wr := ⟨_, rfl⟩
                        go_wp2_with fail
                        refine HLD.out.mono ?_
                        rintro e w11 ⟨A3, c3, rfl, hs3, hb3, hc3⟩
                        have hkd := Blk.new w11 32 #[.int .i64 X.time, .string X.tag, .string X.parent, .int .i64 X.size, .slice A3 X.chunks.length c3]
                        have hbn : Below w11.heap.size w11 (w11.alloc (.cells #[.int .i64 X.time, .string X.tag, .string X.parent, .int .i64 X.size, .slice A3 X.chunks.length c3] 32)) := (Below.refl _ w11).alloc (Nat.le_refl _) _
                        have hbw := hb3.trans (hbn.mono hb3.size)
                        have HSA := Lib.hid (hs3.below hbn)
                        have HSB := Lib.hid (HSR.out.below hbw)
                        have HK12 := Lib.hid hkd
                        have HKM := Lib.hid (HKR.out.below hbw HKR.out.lt)
                        have HO12 := Lib.hid (ownsRow_below HOR.out hbw)
                        have HB12 := Lib.hid (HBR.out.trans (hbw.mono HBR.out.size))
                        clear hs3 hb3 hc3 hkd hbn hbw HLD HSR HKR HOR HBR
                        go_upto_region 47 with fail
                        generalize w11.alloc (.cells #[.int .i64 X.time, .string X.tag, .string X.parent, .int .i64 X.size, .slice A3 X.chunks.length c3] 32) = w12 at *
                        have i0 : (w12).cell? ⟨w11.heap.size, 0, none⟩ = some (.int .i64 X.time) := HK12.out.cell 0
                        have i1 : (w12).cell? ⟨w11.heap.size, 1, none⟩ = some (.string X.tag) := HK12.out.cell 1
                        have i2 : (w12).cell? ⟨w11.heap.size, 2, none⟩ = some (.string X.parent) := HK12.out.cell 2
                        have i3 : (w12).cell? ⟨w11.heap.size, 3, none⟩ = some (.int .i64 X.size) := HK12.out.cell 3
                        have i4 : (w12).cell? ⟨w11.heap.size, 4, none⟩ = some (.slice A3 X.chunks.length c3) := HK12.out.cell 4
                        have j0 : (w12).cell? ⟨w7.heap.size, 0, none⟩ = some (.int .i64 X.time) := HKM.out.cell 0
                        have j1 : (w12).cell? ⟨w7.heap.size, 1, none⟩ = some (.string X.tag) := HKM.out.cell 1
                        have j2 : (w12).cell? ⟨w7.heap.size, 2, none⟩ = some (.string X.parent) := HKM.out.cell 2
                        have j3 : (w12).cell? ⟨w7.heap.size, 3, none⟩ = some (.int .i64 X.size) := HKM.out.cell 3
                        have j4 : (w12).cell? ⟨w7.heap.size, 4, none⟩ = some (.slice Ag X.chunks.length cg) := HKM.out.cell 4
                        have HSM := Lib.hid (msame_any X X A3 Ag c3 cg w12 HSA.out HSB.out (by omega))
                        rw [(sameM_iff X X).2 rfl] at HSM
                        unfold manV at HSM
                        clear HSA HSB HK12 HKM
                        go_wp2_with fail
                        refine HSM.out.mono ?_
                        rintro e w13 ⟨rfl, hb13⟩
                        have HO13 := Lib.hid (ownsRow_below HO12.out hb13)
                        have HB13 := Lib.hid (HB12.out.trans (hb13.mono HB12.out.size))
                        clear hb13 HSM HO12 HB12 i0 i1 i2 i3 i4 j0 j1 j2 j3 j4
                        go_wp2
                        go_roundg (all.length - (j + 1))
                        case measure => omega
                        case rel => exact ⟨j + 1, by go_num, by omega, Nat.le_refl _, by rw [HO1.out]; rfl, Lib.hid (by rw [HS1.out]; exact HO13.out), HB13⟩
              · obtain rfl : j = all.length := by omega
                rw [List.take_length, HOKN.out]
                rw [List.take_length, HSPL.out] at HOW
                obtain ⟨Ap, cp, hsv, _⟩ := own_form HOW.out
                subst hsv
                have HQ := Lib.hid (And.intro HB0.out (own_strs HOW.out).1)
                clear HOW HB0 HSPL HOKN HNAM HSOK HHAS HST hsp1 hok1
                go_wp2
                go_loopg [34] (sn.length + 1) (fun gg iv W => ∃ i : Nat, iv = .int .i64 (i : Nat) ∧ 1 ≤ i ∧ sn.length + 1 - i ≤ gg ∧ Hid (Below wl.heap.size wl W ∧ StrsA W W.heap.size Ap bd))
                case atStart => exact ⟨1, rfl, Nat.le_refl _, by omega, HQ⟩
                case round =>
                  clear HQ
                  obtain ⟨i, rfl, hi1, hig, HQ⟩ := hrel
                  by_cases hil : i < sn.length
                  · obtain ⟨gs, rfl, hgs, hh⟩ := HSN.out (by omega)
                    obtain ⟨p, rfl⟩ : ∃ p, i = p + 1 := ⟨i - 1, by omega⟩
                    have hpl : p < sn.length := by omega
                    obtain ⟨x0, x1, _⟩ := sn_cells hh hpl
                    obtain ⟨y0, y1, _⟩ := sn_cells hh hil
                    have hlt := HUP.out p (p + 1) _ _ (List.getElem?_eq_getElem hpl) (List.getElem?_eq_getElem hil) (Nat.lt_succ_self p)
                    have u0 : wr.cell? ⟨gs, p * 3, none⟩ = some (.string sn[p].id) := (HQ.out.1.cell (p := ⟨gs, p * 3, none⟩) hgs).trans x0
                    have u1 : wr.cell? ⟨gs, p * 3 + 1, none⟩ = some (.int .i64 sn[p].t) := (HQ.out.1.cell (p := ⟨gs, p * 3 + 1, none⟩) hgs).trans x1
                    have v0 : wr.cell? ⟨gs, (p + 1) * 3, none⟩ = some (.string sn[p + 1].id) := (HQ.out.1.cell (p := ⟨gs, (p + 1) * 3, none⟩) hgs).trans y0
                    have v1 : wr.cell? ⟨gs, (p + 1) * 3 + 1, none⟩ = some (.int .i64 sn[p + 1].t) := (HQ.out.1.cell (p := ⟨gs, (p + 1) * 3 + 1, none⟩) hgs).trans y1
                    have HQN := Lib.hid fun nq => (show Below wl.heap.size wl (wr.drewN nq) ∧ StrsA (wr.drewN nq) (wr.drewN nq).heap.size Ap bd from ⟨Go.below_drewN HQ.out.1 nq, HQ.out.2.below (Go.below_drewN (Below.refl _ wr) nq)⟩)
                    unfold ltSn at hlt
                    clear x0 x1 y0 y1 hh HQ
                    generalize sn[p].id = pi at *
                    generalize sn[p].t = pt at *
                    generalize sn[p + 1].id = qi at *
                    generalize sn[p + 1].t = qt at *
                    rcases hlt with hlt | ⟨rfl, hlt⟩
                    · have g1 : decide ((pt : Int) > (qt : Int)) = false := decide_eq_false (by omega)
                      have g3 : decide (qt < pt) = false := decide_eq_false (by omega)
                      have g2 : ((pt : Int) == (qt : Int)) = false := by simp; omega
                      have g4 : (pt == qt) = false := by simp; omega
                      have g5 : ¬ pt = qt := by omega
                      go_upto_region 53 with fail
                      go_quiet (fail)
                      have HQ2 := Lib.hid (HQN.out nq)
                      go_wp2
                      go_roundg (sn.length + 1 - (p + 1 + 1))
                      case measure => omega
                      case rel => exact ⟨p + 1 + 1, by go_num, by omega, Nat.le_refl _, HQ2⟩
                    · have g1 : decide ((pt : Int) > (pt : Int)) = false := decide_eq_false (by omega)
                      have g2 : ((pt : Int) == (pt : Int)) = true := by simp
                      have g3 : Op.bytesLess pi.toList qi.toList = true := by rw [ba_toList, ba_toList, less_ltL, decide_eq_true hlt]
                      go_upto_region 53 with fail
                      go_quiet (fail)
                      have HQ2 := Lib.hid (HQN.out nq)
                      go_wp2
                      go_roundg (sn.length + 1 - (p + 1 + 1))
                      case measure => omega
                      case rel => exact ⟨p + 1 + 1, by go_num, by omega, Nat.le_refl _, HQ2⟩
                  · have HLD := Lib.hid (mload_any b E L id wr (HDW.out _ HQ.out.1) (HEW.out _ HQ.out.1) hid)
                    have HMB := Lib.hid (manB_load E id)
                    have HMF := Lib.hid fun (h : isNameD id = false) => mload_form (D := E) h
                    have HMN := Lib.hid fun (h : (E.mload id).2 = 0) => mload_named h
                    have hez := enc_load HSZ2.out.1 id
                    generalize hml : E.mload id = ml at *
                    clear hml
                    obtain ⟨Y, ye⟩ := ml
                    simp only at HLD HMB HMF HMN hez
                    unfold MLoadPost manV at HLD
                    clear HSN HUP HDW
                    go_wp2_with fail
                    refine HLD.out.mono ?_
                    rintro e w5 ⟨A3, c3, rfl, hs3, hb3, hc3⟩
                    have hkd := Blk.new w5 32 #[.int .i64 Y.time, .string Y.tag, .string Y.parent, .int .i64 Y.size, .slice A3 Y.chunks.length c3]
                    have hbn : Below w5.heap.size w5 (w5.alloc (.cells #[.int .i64 Y.time, .string Y.tag, .string Y.parent, .int .i64 Y.size, .slice A3 Y.chunks.length c3] 32)) := (Below.refl _ w5).alloc (Nat.le_refl _) _
                    have hbw := hb3.trans (hbn.mono hb3.size)
                    have HSA := Lib.hid (hs3.below hbn)
                    have HK6 := Lib.hid hkd
                    have HQ6 := Lib.hid (And.intro (HQ.out.1.trans (hbw.mono HQ.out.1.size)) (HQ.out.2.below hbw))
                    have HC3 := Lib.hid hc3
                    clear hs3 hb3 hc3 hkd hbn hbw HLD HQ
                    go_upto_region 56 with fail
                    generalize w5.alloc (.cells #[.int .i64 Y.time, .string Y.tag, .string Y.parent, .int .i64 Y.size, .slice A3 Y.chunks.length c3] 32) = w6 at *
                    have i0 : (w6).cell? ⟨w5.heap.size, 0, none⟩ = some (.int .i64 Y.time) := HK6.out.cell 0
                    have i1 : (w6).cell? ⟨w5.heap.size, 1, none⟩ = some (.string Y.tag) := HK6.out.cell 1
                    have i2 : (w6).cell? ⟨w5.heap.size, 2, none⟩ = some (.string Y.parent) := HK6.out.cell 2
                    have i3 : (w6).cell? ⟨w5.heap.size, 3, none⟩ = some (.int .i64 Y.size) := HK6.out.cell 3
                    have i4 : (w6).cell? ⟨w5.heap.size, 4, none⟩ = some (.slice A3 Y.chunks.length c3) := HK6.out.cell 4
                    have HEN := Lib.hid (mencode_any Y A3 c3 w6 (HEW.out _ HQ6.out.1) HSA.out HMB.out HC3.out)
                    unfold manV at HEN
                    generalize encR Y = er at *
                    obtain ⟨tx, te⟩ := er
                    simp only at HEN HMN hez
                    clear HSA HK6 HMB HC3
                    go_wp2_with fail
                    refine HEN.out.mono ?_
                    rintro e w7 ⟨rfl, hb7⟩
                    have HQ7 := Lib.hid (And.intro (HQ6.out.1.trans (hb7.mono HQ6.out.1.size)) (HQ6.out.2.below hb7))
                    have HSM := Lib.hid (same_any Bb Ap db cp bd bd w7 (HBD.out.below (HQ7.out.1)) HQ7.out.2 (by omega) (by omega))
                    rw [show sameI bd bd = 0 from if_pos rfl] at HSM
                    clear hb7 HEN HQ6 i0 i1 i2 i3 i4
                    go_wp2_with fail
                    refine HSM.out.mono ?_
                    rintro e w8 ⟨rfl, nd, rfl⟩
                    have HB8 := Lib.hid (HBL.out.trans ((Go.below_drewN HQ7.out.1 nd).mono HBL.out.size))
                    have HNB := Lib.hid fun W => named_big id W
                    clear HSM HQ7
                    generalize w7.drewN nd = w8 at *
                    by_cases hz : ye = 0
                    · subst hz
                      have hnd : isNameD id = true := by
                        cases h : isNameD id with
                        | true => rfl
                        | false => exact absurd (HMF.out h) (by decide)
                      have CD := Lib.hid (ddigest_any tx w8 (by omega))
                      rw [HMN.out rfl] at CD
                      rw [hnd] at HNB
                      clear hnd HMF HMN
                      go_wp2_with fail
                      refine CD.out.mono ?_
                      rintro e w9 ⟨rfl, hb9⟩
                      have HB9 := Lib.hid (HB8.out.trans (hb9.mono HB8.out.size))
                      clear hb9 CD HB8
                      go_wp2_with fail
                      refine (HNB.out _).mono ?_
                      rintro e w10 ⟨rfl, hb10⟩
                      have HB10 := Lib.hid (HB9.out.trans (hb10.mono HB9.out.size))
                      clear hb10 HNB HB9
                      go_wp2
                      go_ret
                      exact ⟨rfl, HB10.out⟩
                    · have hzb : (ye != 0) = true := by simpa using hz
                      have hzc : (ye == 0) = false := by simpa using hz
                      cases hnd : isNameD id with
                      | true =>
                        rw [hnd] at HNB
                        clear hnd HMF HMN
                        go_wp2_with fail
                        refine (HNB.out _).mono ?_
                        rintro e w10 ⟨rfl, hb10⟩
                        have HB10 := Lib.hid (HB8.out.trans (hb10.mono HB8.out.size))
                        clear hb10 HNB HB8
                        go_wp2
                        go_ret
                        exact ⟨rfl, HB10.out⟩
                      | false =>
                        have h4 := HMF.out hnd
                        subst h4
                        rw [hnd] at HNB
                        clear hnd HMF HMN
                        go_wp2_with fail
                        refine (HNB.out _).mono ?_
                        rintro e w10 ⟨rfl, hb10⟩
                        have HB10 := Lib.hid (HB8.out.trans (hb10.mono HB8.out.size))
                        clear hb10 HNB HB8
                        go_wp2
                        go_ret
                        exact ⟨rfl, HB10.out⟩
theorem lists_card (l : List Man) (v : Value) (ops : List Op14) (ov : Value) (id : ByteArray) (w : World) (he : Env w) (hp : MansP w v l) (ho : OpsP w ov ops) (hid : id.size ≤ 140737488355328) :
    Calls Tryz.prog 6 #[v, ov, .string id] w fun e w' => e = .returned (.bool true) ∧ Below w.heap.size w w' := by
  obtain ⟨A, c, rfl, hi, hl⟩ := hp
  obtain ⟨O, co, rfl, hol, hh⟩ := ho
  exact lists_all A c l O co ops id w he hi hl ⟨O, co, rfl, hol, hh⟩ hol hid
end Go.Proofs.YtpeepdkeicgkiaaGreatDoor
