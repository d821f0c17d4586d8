/- The library's slices.SortFunc at this seat: laid by the kit's lay-plain.mjs. Manifests on a disk: the order of snapshots, the library's sort at it. Manifests on a disk: List. Manifests on a disk at rest: names, what is listed. A disk beside two rows of texts; rows of manifests that came in. -/
import Derived.Shelf.SlSortCmp.NoneTotal
import Derived.Ground.SlsfProg
import Derived.Test.YtpeepdkeicgkiaaGreatDoorProg
import Derived.Test.YtpeepdkeicgkiaaGreatDoorZo24
import Derived.Test.YtpeepdkeicgkiaaGreatDoorZo22
namespace Go.Proofs.YtpeepdkeicgkiaaGreatDoor
set_option linter.unusedVariables false
set_option linter.unusedSimpArgs false
set_option linter.unusedSectionVars false
open Go.Shelf
def Tryz.sortSnap_ren : Go.Shelf.Ren := ⟨fun | 6 => 34 | 15 => 69 | 14 => 68 | 28 => 107 | 29 => 108 | 20 => 99 | 21 => 100 | 22 => 101 | 23 => 102 | 24 => 103 | 25 => 104 | 26 => 105 | 27 => 106 | 46 => 121 | 47 => 122 | 48 => 123 | 49 => 124 | 50 => 125 | 57 => 143 | n => n, fun | 22 => 34 | 24 => 38 | 25 => 81 | 3 => 3 | 39 => 113 | 0 => 0 | 53 => 148 | 55 => 86 | 4 => 4 | 46 => 156 | 45 => 155 | 50 => 160 | 5 => 5 | 9 => 9 | 66 => 172 | 70 => 176 | 76 => 192 | 77 => 143 | n => n, fun | n => n⟩
theorem Tryz.sortSnap : Go.Proofs.SlLaysF0.n6 Tryz.prog Tryz.sortSnap_ren := {
  mixed := by kernel_rfl
  f6 := ⟨Tryz.f34.name, by decide, Tryz.func34.trans (congrArg some (by kernel_rfl))⟩
  f14 := ⟨Tryz.f68.name, by decide, Tryz.func68.trans (congrArg some (by kernel_rfl))⟩
  f15 := Tryz.func69.trans (congrArg some (by kernel_rfl))
  f20 := ⟨Tryz.f99.name, by decide, Tryz.func99.trans (congrArg some (by kernel_rfl))⟩
  f21 := ⟨Tryz.f100.name, by decide, Tryz.func100.trans (congrArg some (by kernel_rfl))⟩
  f22 := ⟨Tryz.f101.name, by decide, Tryz.func101.trans (congrArg some (by kernel_rfl))⟩
  f23 := ⟨Tryz.f102.name, by decide, Tryz.func102.trans (congrArg some (by kernel_rfl))⟩
  f24 := ⟨Tryz.f103.name, by decide, Tryz.func103.trans (congrArg some (by kernel_rfl))⟩
  f25 := ⟨Tryz.f104.name, by decide, Tryz.func104.trans (congrArg some (by kernel_rfl))⟩
  f26 := ⟨Tryz.f105.name, by decide, Tryz.func105.trans (congrArg some (by kernel_rfl))⟩
  f27 := ⟨Tryz.f106.name, by decide, Tryz.func106.trans (congrArg some (by kernel_rfl))⟩
  f28 := Tryz.func107.trans (congrArg some (by kernel_rfl))
  f29 := Tryz.func108.trans (congrArg some (by kernel_rfl))
  f46 := ⟨Tryz.f121.name, by decide, Tryz.func121.trans (congrArg some (by kernel_rfl))⟩
  f47 := Tryz.func122.trans (congrArg some (by kernel_rfl))
  f48 := Tryz.func123.trans (congrArg some (by kernel_rfl))
  f49 := ⟨Tryz.f124.name, by decide, Tryz.func124.trans (congrArg some (by kernel_rfl))⟩
  f50 := ⟨Tryz.f125.name, by decide, Tryz.func125.trans (congrArg some (by kernel_rfl))⟩
  f57 := ⟨Tryz.f143.name, by decide, Tryz.func143.trans (congrArg some (by kernel_rfl))⟩
  t0 := Tryz.underlying0
  a0 := Tryz.isAgg0
  z0 := Tryz.sizeOf0
  v0 := Tryz.zeroValue0
  t3 := Tryz.underlying3
  a3 := Tryz.isAgg3
  z3 := Tryz.sizeOf3
  v3 := Tryz.zeroValue3
  t4 := Tryz.underlying4
  a4 := Tryz.isAgg4
  z4 := Tryz.sizeOf4
  v4 := Tryz.zeroValue4
  t5 := Tryz.underlying5
  a5 := Tryz.isAgg5
  z5 := Tryz.sizeOf5
  v5 := Tryz.zeroValue5
  t9 := Tryz.underlying9
  a9 := Tryz.isAgg9
  z9 := Tryz.sizeOf9
  v9 := Tryz.zeroValue9
  t22 := Tryz.underlying34
  a22 := Tryz.isAgg34
  z22 := Tryz.sizeOf34
  v22 := Tryz.zeroValue34
  t25 := Tryz.underlying81
  a25 := Tryz.isAgg81
  z25 := Tryz.sizeOf81
  v25 := Tryz.zeroValue81
  t39 := Tryz.underlying113
  a39 := Tryz.isAgg113
  z39 := Tryz.sizeOf113
  v39 := Tryz.zeroValue113
  t45 := Tryz.underlying155
  a45 := Tryz.isAgg155
  z45 := Tryz.sizeOf155
  v45 := Tryz.zeroValue155
  t46 := Tryz.underlying156
  a46 := Tryz.isAgg156
  z46 := Tryz.sizeOf156
  v46 := Tryz.zeroValue156
  t50 := Tryz.underlying160
  a50 := Tryz.isAgg160
  z50 := Tryz.sizeOf160
  v50 := Tryz.zeroValue160
  t53 := Tryz.underlying148
  a53 := Tryz.isAgg148
  z53 := Tryz.sizeOf148
  v53 := Tryz.zeroValue148
  t55 := Tryz.underlying86
  a55 := Tryz.isAgg86
  z55 := Tryz.sizeOf86
  v55 := Tryz.zeroValue86
  t66 := Tryz.underlying172
  a66 := Tryz.isAgg172
  z66 := Tryz.sizeOf172
  v66 := Tryz.zeroValue172
  t70 := Tryz.underlying176
  a70 := Tryz.isAgg176
  z70 := Tryz.sizeOf176
  v70 := Tryz.zeroValue176
  t76 := Tryz.underlying192
  a76 := Tryz.isAgg192
  z76 := Tryz.sizeOf192
  v76 := Tryz.zeroValue192
  t77 := Tryz.underlying143
  a77 := Tryz.isAgg143
  z77 := Tryz.sizeOf143
  v77 := Tryz.zeroValue143 }
end Go.Proofs.YtpeepdkeicgkiaaGreatDoor
namespace Go.Proofs.YtpeepdkeicgkiaaGreatDoor
set_option linter.unusedVariables false
set_option linter.unusedSimpArgs false
set_option linter.unusedSectionVars false
open Go.RowKit Go.Maps Go.Shelf Go.Lib Go.Sort

/-- a snapshot as it is listed: when, its name -/
structure Sn where
  t : Nat
  id : ByteArray
  ok : t ≤ 1099511627776
instance : Inhabited Sn := ⟨⟨0, ⟨#[]⟩, Nat.zero_le _⟩⟩
theorem Sn.same {x y : Sn} (h1 : x.t = y.t) (h2 : x.id = y.id) : x = y := by
  cases x; cases y; simp only at h1 h2; subst h1 h2; rfl
def snC (tg : ByteArray → ByteArray) (x : Sn) : List Value := [.string x.id, .int .i64 x.t, .string (tg x.id)]
def cmpT (t1 : Nat) (i1 : ByteArray) (t2 : Nat) (i2 : ByteArray) : Int := if t1 = t2 then Lib.compareBytes i1.data.toList i2.data.toList else (t1 : Int) - t2
def cmpSn (x y : Sn) : Int := cmpT x.t x.id y.t y.id
theorem cb_neg : ∀ a b : List UInt8, (Lib.compareBytes a b < 0) ↔ a < b
  | [], [] => by simp [Lib.compareBytes]
  | [], _ :: _ => by simp [Lib.compareBytes]
  | _ :: _, [] => by simp [Lib.compareBytes]
  | a :: la, b :: lb => by
    unfold Lib.compareBytes
    rw [List.cons_lt_cons_iff]
    split
    · next h => simp [h]
    · next h =>
      split
      · next h2 =>
        have : a ≠ b := fun e => by subst e; exact h h2
        simp [h, this]
      · next h2 =>
        have e : a = b := UInt8.le_antisymm (UInt8.not_lt.1 h2) (UInt8.not_lt.1 h)
        rw [cb_neg la lb]
        simp [h, e]
/-- is it listed ahead? -/
def ltSn (x y : Sn) : Prop := x.t < y.t ∨ (x.t = y.t ∧ x.id.data.toList < y.id.data.toList)
theorem ltOf_sn (x y : Sn) : ltOf cmpSn x y = true ↔ ltSn x y := by
  unfold ltOf cmpSn cmpT ltSn
  rw [decide_eq_true_eq]
  split
  · next h => rw [cb_neg]; simp [h]
  · next h => omega
theorem ltOf_snf (x y : Sn) : ltOf cmpSn x y = false ↔ ¬ ltSn x y := by rw [← ltOf_sn, Bool.not_eq_true]
theorem swoSn : SWO (ltOf cmpSn) where
  irrefl x := by
    rw [ltOf_snf]
    rintro (h | ⟨_, h⟩)
    · omega
    · exact List.lt_irrefl _ h
  trans x y z h1 h2 := by
    rw [ltOf_sn] at *
    rcases h1 with h1 | ⟨h1, g1⟩ <;> rcases h2 with h2 | ⟨h2, g2⟩
    · exact .inl (by omega)
    · exact .inl (by omega)
    · exact .inl (by omega)
    · exact .inr ⟨by omega, List.lt_trans g1 g2⟩
  ntrans x y z h1 h2 := by
    rw [ltOf_snf] at *
    unfold ltSn at *
    rintro (h | ⟨h, g⟩)
    · rcases Nat.lt_trichotomy x.t y.t with a | a | a
      · exact h1 (.inl a)
      · exact h2 (.inl (by omega))
      · exact h2 (.inl (by omega))
    · rcases Nat.lt_trichotomy x.t y.t with a | a | a
      · exact h1 (.inl a)
      · have n1 : ¬ x.id.data.toList < y.id.data.toList := fun e => h1 (.inr ⟨a, e⟩)
        have n2 : ¬ y.id.data.toList < z.id.data.toList := fun e => h2 (.inr ⟨by omega, e⟩)
        exact (List.not_lt.2 (List.le_trans (List.not_lt.1 n2) (List.not_lt.1 n1))) g
      · exact h2 (.inl (by omega))
theorem totSn (x y : Sn) (h1 : ltOf cmpSn x y = false) (h2 : ltOf cmpSn y x = false) : x = y := by
  rw [ltOf_snf] at h1 h2
  unfold ltSn at h1 h2
  have ht : x.t = y.t := by
    rcases Nat.lt_trichotomy x.t y.t with a | a | a
    · exact absurd (.inl a) h1
    · exact a
    · exact absurd (.inl a) h2
  refine Sn.same ht (ByteArray.ext (Array.toList_inj.1 (List.le_antisymm ?_ ?_)))
  · exact List.not_lt.1 fun e => h2 (.inr ⟨ht.symm, e⟩)
  · exact List.not_lt.1 fun e => h1 (.inr ⟨ht, e⟩)
set_option maxRecDepth 100000 in
set_option maxHeartbeats 1000000 in
theorem before_any (i1 g1 i2 g2 : ByteArray) (t1 t2 : Nat) (h1 : t1 ≤ 1099511627776) (h2 : t2 ≤ 1099511627776) (W : World) :
    Calls Tryz.prog 35 #[.agg #[.string i1, .int .i64 t1, .string g1], .agg #[.string i2, .int .i64 t2, .string g2]] W fun e w' => e = .returned (.int .i64 (cmpT t1 i1 t2 i2)) ∧ ∃ q os', w' = grow (W.drewN q) os' := by
  have HC := Lib.hid fun W => Tryz.strings_Compare i1 i2 W
  by_cases h : t1 = t2
  · subst h
    have HX := Lib.hid (show cmpT t1 i1 t1 i2 = Lib.compareBytes i1.data.toList i2.data.toList by unfold cmpT; rw [if_pos rfl])
    generalize Lib.compareBytes i1.data.toList i2.data.toList = r at *
    have hn : ((t1 : Int) != (t1 : Int)) = false := by simp
    go_enter Tryz.func35, Tryz.ntmps35
    go_wp2_with fail
    refine (HC.out _).mono ?_
    rintro e w1 ⟨rfl, rfl⟩
    go_wp2
    go_ret
    exact ⟨by rw [HX.out]; rfl, 0, _, by rw [alloc_eq_grow, alloc_eq_grow, grow_grow]; rfl⟩
  · have HX := Lib.hid (show cmpT t1 i1 t2 i2 = (t1 : Int) - t2 by unfold cmpT; rw [if_neg h])
    have hn : ((t1 : Int) != (t2 : Int)) = true := by simp; omega
    clear h HC
    go_enter Tryz.func35, Tryz.ntmps35
    go_wp2
    go_ret
    exact ⟨by rw [HX.out]; rfl, 0, _, by rw [alloc_eq_grow, alloc_eq_grow, grow_grow]; rfl⟩
theorem cmpLaysSn (tg : ByteArray → ByteArray) (blk off size : Nat) (w : World) : CmpLays Tryz.prog 35 #[] (snC tg) 3 cmpSn blk off size w :=
  fun _ _ _ _ x y => before_any x.id (tg x.id) y.id (tg y.id) x.t y.t x.ok y.ok _
theorem isAggSn : ∀ w, (isAgg 38).run Tryz.prog w = .ok true w := fun w => by kernel_rfl
theorem sizeSn : ∀ w, (Go.sizeOf 38).run Tryz.prog w = .ok 3 w := fun w => by kernel_rfl
/-- in the order in which they are listed -/
def sortSn (d : List Sn) : List Sn := d.mergeSort fun x y => !(ltOf cmpSn) y x
theorem ssort_any (tg : ByteArray → ByteArray) (blk off cap : Nat) (d : List Sn) (w : World) (hH : HoldsK (snC tg) 3 w blk off d.toArray) (hblk : blk < w.heap.size) (hsz : d.length < 4611686018427387904) :
    Calls Tryz.prog 34 #[.slice (some ⟨blk, off, none⟩) d.length cap, .func (.func 35) #[] #[]] w fun e w' =>
      e = .returned (.tuple #[]) ∧ HoldsK (snC tg) 3 w' blk off (sortSn d).toArray ∧ Touch (· = blk) w w' := by
  have eg : ∀ args w, (callFunc 35 args).run Tryz.prog w = .ok (.enter 35 args) w := enters_of Tryz.func35 (by kernel_rfl) rfl
  have hcon := AnyQ.slices_SortFunc_total Tryz.sortSnap 3 isAggSn sizeSn (snC tg) (fun _ => rfl) (fun x v hv => by simp [snC] at hv; rcases hv with rfl | rfl | rfl <;> rfl) cmpSn swoSn 35 #[] blk off cap d.toArray w eg (cmpLaysSn tg blk off d.toArray.size w) hH hblk (by simpa using hsz) totSn
  change Calls Tryz.prog 34 _ _ _ at hcon
  rw [List.size_toArray] at hcon
  refine hcon.mono fun e w' ⟨he, n, os, hw⟩ => ⟨he, ?_, ?_⟩
  · rw [hw]
    exact holdsK_sortWorldK (snC tg) 3 w blk off n d.toArray _ os hblk hH (by simp)
  · have hz : (putRowK (snC tg) 3 (Sort.ahead w n) blk off (sortSn d).toArray).heap.size = w.heap.size := by rw [size_putRowK]; rfl
    have hw2 : w' = grow (putRowK (snC tg) 3 (Sort.ahead w n) blk off (sortSn d).toArray) os := hw
    refine ⟨by rw [hw2]; rfl, by rw [hw2]; rfl, by rw [hw2]; rfl, ?_, fun k hk hne => ?_⟩
    · rw [hw2]
      show w.heap.size ≤ ((putRowK (snC tg) 3 (Sort.ahead w n) blk off (sortSn d).toArray).heap ++ os).size
      rw [Array.size_append, hz]; omega
    · rw [hw2, heap_grow_old _ os (by rw [hz]; exact hk)]
      show ((Sort.ahead w n).heap.modify blk _)[k]? = _
      rw [Array.getElem?_modify, if_neg (fun e => hne e.symm)]
      rfl
theorem ssort_none (cap : Nat) (A : Option Addr) (fv : Value) (w : World) :
    Calls Tryz.prog 34 #[.slice A 0 cap, fv] w fun e w' => e = .returned (.tuple #[]) ∧ w' = w := by
  have hcon := AnyF.slices_SortFunc_none { Tryz.sortSnap with } A cap fv w
  exact hcon
end Go.Proofs.YtpeepdkeicgkiaaGreatDoor
namespace Go.Proofs.YtpeepdkeicgkiaaGreatDoor
set_option linter.unusedVariables false
set_option linter.unusedSimpArgs false
set_option linter.unusedSectionVars false
open Go.RowKit Go.Maps Go.Shelf Go.Lib Go.Sort

def idOf (n : ByteArray) : ByteArray := n.extract 1 n.size
def Dk.okId (D : Dk) (id : ByteArray) : Bool := decide ((D.mload id).2 = 0)
def Dk.tagOf (D : Dk) (id : ByteArray) : ByteArray := (D.mload id).1.tag
def Dk.snOf (D : Dk) (id : ByteArray) : Sn := ⟨min (D.mload id).1.time.toNat 1099511627776, id, Nat.min_le_right _ _⟩
def Dk.goodsL (D : Dk) (l : List ByteArray) : List Sn := ((l.map idOf).filter D.okId).map D.snOf
def Dk.badsL (D : Dk) (l : List ByteArray) : List ByteArray := (l.map idOf).filter fun id => !D.okId id
/-- the snapshots that are listed -/
def Dk.snaps (D : Dk) : List Sn := sortSn (D.goodsL (D.names frontS))
def Dk.bads (D : Dk) : List ByteArray := D.badsL (D.names frontS)
theorem goodsL_succ (D : Dk) (l : List ByteArray) {k : Nat} (h : k < l.length) : D.goodsL (l.take (k + 1)) = D.goodsL (l.take k) ++ (if D.okId (idOf l[k]) then [D.snOf (idOf l[k])] else []) := by
  unfold Dk.goodsL
  rw [List.take_succ_eq_append_getElem h, List.map_append, List.filter_append, List.map_append]
  cases hp : D.okId (idOf l[k]) <;> simp [hp]
theorem badsL_succ (D : Dk) (l : List ByteArray) {k : Nat} (h : k < l.length) : D.badsL (l.take (k + 1)) = D.badsL (l.take k) ++ (if D.okId (idOf l[k]) then [] else [idOf l[k]]) := by
  unfold Dk.badsL
  rw [List.take_succ_eq_append_getElem h, List.map_append, List.filter_append]
  cases hp : D.okId (idOf l[k]) <;> simp [hp]
theorem goodsL_len (D : Dk) (l : List ByteArray) : (D.goodsL l).length ≤ l.length := by
  unfold Dk.goodsL
  rw [List.length_map]
  exact Nat.le_trans (List.length_filter_le _ _) (by simp)
theorem badsL_len (D : Dk) (l : List ByteArray) : (D.badsL l).length ≤ l.length := by
  unfold Dk.badsL
  exact Nat.le_trans (List.length_filter_le _ _) (by simp)
theorem sortSn_len (l : List Sn) : (sortSn l).length = l.length := (List.mergeSort_perm l _).length_eq
theorem loaded_good (q : ByteArray × Int) (h0 : (if q.2 ≠ 0 then (noMan, q.2) else if (decS q.1).2 ≠ 0 then (noMan, 13) else ((decS q.1).1, 0) : Man × Int).2 = 0) : goodM (if q.2 ≠ 0 then (noMan, q.2) else if (decS q.1).2 ≠ 0 then (noMan, 13) else ((decS q.1).1, 0) : Man × Int).1 = true := by
  have hb := fun h => (decS_back (s := q.1) h).1
  generalize decS q.1 = d at *
  by_cases h1 : q.2 = 0
  · rw [if_neg (not_not_intro h1)] at h0 ⊢
    by_cases h2 : d.2 = 0
    · rw [if_neg (not_not_intro h2)]
      exact hb h2
    · rw [if_pos h2] at h0
      exact absurd h0 (by decide)
  · rw [if_pos h1] at h0
    exact absurd h0 h1
theorem mload_good {D : Dk} {id : ByteArray} (h0 : (D.mload id).2 = 0) : goodM (D.mload id).1 = true := by
  unfold Dk.mload at h0 ⊢
  exact loaded_good _ h0
theorem mload_time {D : Dk} {id : ByteArray} (h : D.okId id = true) : ∃ n : Nat, (D.mload id).1.time = n ∧ n ≤ 1099511627776 ∧ (D.snOf id).t = n := by
  have hg := (good_parts (mload_good (of_decide_eq_true h))).1
  have e : (D.snOf id).t = min (D.mload id).1.time.toNat 1099511627776 := rfl
  rw [e]
  generalize (D.mload id).1.time = t at *
  obtain ⟨n, rfl⟩ : ∃ n : Nat, t = n := ⟨t.toNat, by omega⟩
  exact ⟨n, rfl, by omega, by rw [Int.toNat_natCast]; omega⟩
theorem own_apart {w : World} {B B' : Nat} {t t' : TypeId} {k k' n n' : Nat} {v v' : Value} {xs xs' : List Value} (h : w.ownsRow B t k v n xs) (h' : w.ownsRow B' t' k' v' n' xs') (ht : t ≠ t') : ∀ g, v'.ownBlock = some g → some g ≠ v.ownBlock := by
  intro g hg e
  rcases h.2 with ⟨hv, _⟩ | ⟨g1, c1, u1, hv, _, hh, _⟩
  · rw [hv] at e; cases e
  · rcases h'.2 with ⟨hv', _⟩ | ⟨g2, c2, u2, hv', _, hh', _⟩
    · rw [hv'] at hg; cases hg
    · rw [hv] at e
      rw [hv'] at hg
      obtain rfl : g = g1 := by simpa [Value.ownBlock] using e
      obtain rfl : g2 = g := by simpa [Value.ownBlock] using hg
      rw [hh] at hh'
      simp only [Option.some.injEq, Obj.cells.injEq] at hh'
      exact ht hh'.2.1
theorem own_beside {w w' : World} {B : Nat} {t : TypeId} {k n : Nat} {v : Value} {xs : List Value} {r : Option Nat} (h : w.ownsRow B t k v n xs) (hg : w.grownBy w' r) (hr : ∀ g, v.ownBlock = some g → some g ≠ r) : w'.ownsRow B t k v n xs :=
  ownsRow_keep h fun g hv => hg.block g (ownsRow_lt h hv).2 (hr g hv)
theorem infoSnap : (Tryz.prog.info? 38).map (fun i => (i.zero, i.size, i.bytes)) = some (some (.agg #[.string ⟨#[]⟩, .int .i64 0, .string ⟨#[]⟩]), 3, 40) := by kernel_rfl
/-- snapshots at an address, if there are any -/
def SnA (W : World) (A : Option Addr) (tg : ByteArray → ByteArray) (l : List Sn) : Prop := 0 < l.length → ∃ g, A = some ⟨g, 0, none⟩ ∧ g < W.heap.size ∧ HoldsK (snC tg) 3 W g 0 l.toArray
theorem flat_snC (tg : ByteArray → ByteArray) : ∀ (l : List Sn) (j : Nat), j < l.length * 3 → (l.flatMap (snC tg))[j]? = some ((snC tg l.toArray[j / 3]!)[j % 3]!)
  | [], j, h => by simp at h
  | x :: r, j, h => by
    rw [List.flatMap_cons]
    by_cases h3 : j < 3
    · rw [List.getElem?_append_left (show j < (snC tg x).length from h3)]
      rw [show j / 3 = 0 by omega, show j % 3 = j by omega]
      match j, h3 with
      | 0, _ => rfl
      | 1, _ => rfl
      | 2, _ => rfl
    · rw [List.getElem?_append_right (show (snC tg x).length ≤ j from Nat.le_of_not_lt h3)]
      show (r.flatMap (snC tg))[j - 3]? = _
      rw [flat_snC tg r (j - 3) (by simp at h; omega)]
      have e1 : j / 3 = (j - 3) / 3 + 1 := by omega
      have e2 : j % 3 = (j - 3) % 3 := by omega
      rw [e1, e2]
      have e3 : (x :: r).toArray[(j - 3) / 3 + 1]! = r.toArray[(j - 3) / 3]! := by simp
      rw [e3]
theorem own_holdsS {w : World} {B g c : Nat} {tg : ByteArray → ByteArray} {l : List Sn} (h : w.ownsRow B 38 3 (.slice (some ⟨g, 0, none⟩) l.length c) l.length (l.flatMap (snC tg))) : HoldsK (snC tg) 3 w g 0 l.toArray := by
  intro j hj
  rw [size_flatK] at hj
  rw [List.size_toArray] at hj
  rcases h.2 with ⟨hv, _⟩ | ⟨g', cap, cur, hv, _, hg, hc1, hc2, hc3, htake⟩
  · cases hv
  · simp only [Value.slice.injEq, Option.some.injEq, Addr.mk.injEq] at hv
    obtain ⟨⟨rfl, _⟩, _, rfl⟩ := hv
    refine ⟨?_, by simp [World.frozen?, hg]⟩
    have hcell : w.cell? ⟨g, 0 + j, none⟩ = cur[j]? := by
      rw [Nat.zero_add]
      exact cell_of_row w g j cur _ _ hg
    have h2 : (l.flatMap (snC tg))[j]? = cur[j]? := by
      rw [← htake, List.getElem?_take, if_pos (by omega)]
      simp
    rw [hcell, ← h2, flat_snC tg l j hj, get_flatK _ _ _ _ (by rw [List.size_toArray]; exact hj)]
    rfl
theorem isP_front {s : ByteArray} (h : isP frontS s = true) : 1 ≤ s.size := by
  unfold isP at h
  rw [Bool.and_eq_true] at h
  have h1 := h.1
  have e : s.data.toList.length = s.size := by simp
  cases hs : s.data.toList with
  | nil => rw [hs] at h1; exact absurd h1 (by decide)
  | cons a r => rw [hs] at e; simp at e; omega
def MListPost (D : Dk) (w : World) (e : Ending) (w' : World) : Prop :=
  ∃ A c B d, e = .returned (.tuple #[.slice A D.snaps.length c, .slice B D.bads.length d, .int .i64 0]) ∧ SnA w' A D.tagOf D.snaps ∧ StrsA w' w'.heap.size B D.bads ∧ D.snaps.length ≤ c ∧ D.bads.length ≤ d ∧ (A = none → c = 0) ∧ (B = none → d = 0) ∧ Below w.heap.size w w'
theorem own_nil9 {w : World} {B : Nat} {t : TypeId} {k n c : Nat} {A : Option Addr} {xs : List Value} (h : w.ownsRow B t k (.slice A n c) n xs) : A = none → c = 0 := by
  rintro rfl
  rcases h.2 with ⟨hv, _⟩ | ⟨g, cap, cur, hv, _⟩
  · simp only [Value.slice.injEq] at hv; exact hv.2.2
  · cases hv
theorem own_formk9 {w : World} {B n k : Nat} {t : TypeId} {v : Value} {xs : List Value} (h : w.ownsRow B t k v n xs) : (v = .slice none 0 0 ∧ n = 0) ∨ ∃ g c, v = .slice (some ⟨g, 0, none⟩) n c ∧ B ≤ g ∧ g < w.heap.size ∧ n ≤ c := by
  rcases h.2 with h2 | ⟨g, cap, cur, hv, hg, hh, h1, h3, _⟩
  · exact Or.inl h2
  · exact Or.inr ⟨g, cap, hv, hg, (Array.getElem?_eq_some_iff.1 hh).1, by omega⟩
set_option maxRecDepth 100000 in
set_option maxHeartbeats 3200000 in
theorem mlist_any (b : Nat) (D : Dk) (L : Lay) (w : World) (h : DiskAt w b D L) (he : Env w) (hd : D.dead = false) (hl : D.folder.length ≤ 1000000) :
    Calls Tryz.prog 11 #[.pointer (some ⟨b, 0, none⟩)] w fun e w' => MListPost D w e w' := by
  have HNA := Lib.hid (names_any b D L frontS w h hd hl)
  have HML := Lib.hid fun id (hz : id.size ≤ 1099511627776) W (hb : Below w.heap.size w W) => mload_any b D L id W (h.below hb) (he.below hb) (Nat.le_trans hz (by decide))
  have HNS := Lib.hid fun s (hs : s ∈ D.names frontS) => (show 1 ≤ s.size ∧ s.size ≤ 80 from by
    have hs' := List.mem_filter.1 hs
    obtain ⟨v, hv⟩ := kvNames_mem hs'.1
    exact ⟨isP_front hs'.2, h.ok.nam _ hv⟩)
  have hll : (D.names frontS).length ≤ 1000000 := Nat.le_trans (List.length_filter_le _ _) (by rw [kvNames_len]; exact hl)
  have HSN := Lib.hid (show D.snaps = sortSn (D.goodsL (D.names frontS)) from rfl)
  have HBD := Lib.hid (show D.bads = D.badsL (D.names frontS) from rfl)
  unfold MListPost
  generalize D.snaps = snaps at *
  generalize D.bads = bads at *
  generalize D.names frontS = l at *
  clear h he hd hl
  rw [show frontS = (⟨#[115]⟩ : ByteArray) from rfl] at HNA
  go_enter Tryz.func11, Tryz.ntmps11
  go_wp2_with fail
  refine HNA.out.mono ?_
  rintro e w1 ⟨lv, rfl, hown, hb1⟩
  obtain ⟨A, c, rfl, _⟩ := own_form hown
  have HST := Lib.hid (own_strs hown).1
  have HB1 := Lib.hid hb1
  clear hown hb1 HNA
  go_wp2
  go_loopw [7, 8, 24] (fun ov bv iv wr => ∃ k : Nat, iv = .int .i64 (k : Nat) ∧ k ≤ l.length ∧ Hid (wr.ownsRow w1.heap.size 38 3 ov (D.goodsL (l.take k)).length ((D.goodsL (l.take k)).flatMap (snC D.tagOf))) ∧ Hid (wr.ownsRow w1.heap.size 9 1 bv (D.badsL (l.take k)).length ((D.badsL (l.take k)).map .string)) ∧ Hid (Below w1.heap.size w1 wr)) (fun _ _ iv _ => l.length - (intOf iv).toNat)
  case atStart => exact ⟨0, rfl, Nat.zero_le _, Lib.hid ⟨rfl, Or.inl ⟨rfl, rfl⟩⟩, Lib.hid ⟨rfl, Or.inl ⟨rfl, rfl⟩⟩, Lib.hid (Below.refl _ _)⟩
  case round =>
    obtain ⟨k, rfl, hk, HO, HR, HB⟩ := hrel
    by_cases hlt : k < l.length
    · obtain ⟨g, o, rfl, hg, hcc⟩ := HST.out (by omega)
      have cs := (HB.out.cell (p := ⟨g, o + k, none⟩) hg).trans (hcc k _ (List.getElem?_eq_getElem hlt))
      obtain ⟨hs1, hs80⟩ := HNS.out _ (List.getElem_mem hlt)
      have HGS := Lib.hid (goodsL_succ D l hlt)
      have HBS := Lib.hid (badsL_succ D l hlt)
      have hgl := goodsL_len D (l.take k)
      have hbl := badsL_len D (l.take k)
      rw [List.length_take] at hgl hbl
      clear hcc
      have hez : (idOf l[k]).size ≤ 1099511627776 := by unfold idOf; rw [ByteArray.size_extract]; omega
      have HI := Lib.hid (HML.out (idOf l[k]) hez)
      have HID := Lib.hid (show idOf l[k] = l[k].extract 1 l[k].size from rfl)
      clear hez
      generalize l[k] = s at *
      go_wp2_with fail
      rw [← HID.out]
      generalize idOf s = id at *
      have HTM := Lib.hid fun h => mload_time (D := D) (id := id) h
      have HOK := Lib.hid (show D.okId id = decide ((D.mload id).2 = 0) from rfl)
      have HTG := Lib.hid (show D.tagOf id = (D.mload id).1.tag from rfl)
      have HSI := Lib.hid (show (D.snOf id).id = id from rfl)
      unfold MLoadPost manV at HI
      generalize D.mload id = r at *
      obtain ⟨⟨tm, tag, par, sz, ch⟩, r2⟩ := r
      simp only at HI HTM HOK HTG
      refine (HI.out _ (HB1.out.trans (HB.out.mono HB1.out.size))).mono ?_
      rintro e w2 ⟨A2, c2, rfl, _, hb2, _⟩
      have HB2 := Lib.hid (HB.out.trans (hb2.mono HB.out.size))
      have HO2 := Lib.hid (ownsRow_below HO.out hb2)
      have HR2 := Lib.hid (ownsRow_below HR.out hb2)
      clear hb2 HI HB HO HR cs
      have HB3 := Lib.hid (HB2.out.alloc HB2.out.size (.cells #[.int .i64 tm, .string tag, .string par, .int .i64 sz, .slice A2 ch.length c2] 32))
      have HN3 := Lib.hid (Blk.new w2 32 #[.int .i64 tm, .string tag, .string par, .int .i64 sz, .slice A2 ch.length c2])
      have HO3 := Lib.hid (HO2.out.alloc (.cells #[.int .i64 tm, .string tag, .string par, .int .i64 sz, .slice A2 ch.length c2] 32))
      have HR3 := Lib.hid (HR2.out.alloc (.cells #[.int .i64 tm, .string tag, .string par, .int .i64 sz, .slice A2 ch.length c2] 32))
      clear HB2 HO2 HR2
      by_cases h0 : r2 = 0
      · subst h0
        have HG2 := Lib.hid (show D.goodsL (l.take (k + 1)) = D.goodsL (l.take k) ++ [D.snOf id] by rw [HGS.out, HOK.out]; rfl)
        have HR4 := Lib.hid (show D.badsL (l.take (k + 1)) = D.badsL (l.take k) by rw [HBS.out, HOK.out]; simp)
        obtain ⟨n, rfl, hn, hsn⟩ := HTM.out HOK.out
        have HSC := Lib.hid (show snC D.tagOf (D.snOf id) = [.string id, .int .i64 n, .string tag] by unfold snC; rw [hsn, HSI.out, HTG.out])
        clear HGS HBS HTM HOK hsn HTG HSI
        generalize D.goodsL (l.take k) = xs at *
        generalize D.badsL (l.take k) = ys at *
        have m0 : (w2.alloc (.cells #[.int .i64 n, .string tag, .string par, .int .i64 sz, .slice A2 ch.length c2] 32)).cell? ⟨w2.heap.size, 0, none⟩ = some (.int .i64 n) := HN3.out.cell 0
        have m1 : (w2.alloc (.cells #[.int .i64 n, .string tag, .string par, .int .i64 sz, .slice A2 ch.length c2] 32)).cell? ⟨w2.heap.size, 1, none⟩ = some (.string tag) := HN3.out.cell 1
        go_upto_region 13 with fail
        generalize w2.alloc (.cells #[.int .i64 n, .string tag, .string par, .int .i64 sz, .slice A2 ch.length c2] 32) = w3 at *
        have hz3 := HB3.out.size
        go_wp2_with (at_builtin; refine wpList_app1 rfl _ _ 34 rfl w1.heap.size 38 Tryz.underlying34 infoSnap rfl (by decide) _ _ _ rfl HO3.out #[.string id, .int .i64 n, .string tag] rfl rfl (by simp [Value.oneCell']) (by omega) (by omega) hz3 ?_; intro g4 c4 w4 ho4 hg4 hb4 hl4)
        have HB4 := Lib.hid (HB3.out.trans hb4)
        have HO4 := Lib.hid (show w4.ownsRow w1.heap.size 38 3 (.slice (some ⟨g4, 0, none⟩) (xs.length + 1) c4) (xs ++ [D.snOf id]).length ((xs ++ [D.snOf id]).flatMap (snC D.tagOf)) from by
          rw [List.length_append, List.flatMap_append, List.flatMap_cons, HSC.out]
          simpa using ho4)
        have HR5 := Lib.hid (own_beside HR3.out hg4 (own_apart HO3.out HR3.out (by decide)))
        clear ho4 hg4 hb4 hl4 HB3 HO3 HR3 HN3 m0 m1
        go_wp2
        go_roundw
        case rel => exact ⟨k + 1, by go_num, by omega, by rw [HG2.out]; exact HO4, by rw [HR4.out]; exact HR5, HB4⟩
        case measure => simp [intOf]; omega
      · have hq := bne0' h0
        have HG2 := Lib.hid (show D.goodsL (l.take (k + 1)) = D.goodsL (l.take k) by rw [HGS.out, HOK.out]; simp [h0])
        have HR4 := Lib.hid (show D.badsL (l.take (k + 1)) = D.badsL (l.take k) ++ [id] by rw [HBS.out, HOK.out]; simp [h0])
        clear HGS HBS HTM HOK HTG HSI h0
        generalize D.goodsL (l.take k) = xs at *
        generalize D.badsL (l.take k) = ys at *
        go_upto_region 12 with fail
        generalize w2.alloc (.cells #[.int .i64 tm, .string tag, .string par, .int .i64 sz, .slice A2 ch.length c2] 32) = w3 at *
        have hz3 := HB3.out.size
        go_wp2_with (at_builtin; refine wpList_app1 rfl _ _ 30 rfl w1.heap.size 9 Tryz.underlying30 infoS rfl (by decide) _ _ _ rfl HR3.out _ rfl rfl (oneCell_string _) (by omega) (by omega) hz3 ?_; intro g4 c4 w4 ho4 hg4 hb4 hl4)
        have HB4 := Lib.hid (HB3.out.trans hb4)
        have HR5 := Lib.hid (show w4.ownsRow w1.heap.size 9 1 (.slice (some ⟨g4, 0, none⟩) (ys.length + 1) c4) (ys ++ [id]).length ((ys ++ [id]).map .string) from by
          rw [List.length_append, List.map_append]; exact ho4)
        have HO4 := Lib.hid (own_beside HO3.out hg4 (own_apart HR3.out HO3.out (by decide)))
        clear ho4 hg4 hb4 hl4 HB3 HO3 HR3 HN3
        go_wp2
        go_roundw
        case rel => exact ⟨k + 1, by go_num, by omega, by rw [HG2.out]; exact HO4, by rw [HR4.out]; exact HR5, HB4⟩
        case measure => simp [intOf]; omega
    · obtain rfl : k = l.length := by omega
      rw [List.take_length] at HO HR
      rw [← HBD.out] at HR
      have HB2 := Lib.hid (HB1.out.trans (HB.out.mono HB1.out.size))
      have hgl := goodsL_len D l
      generalize D.goodsL l = xs at *
      obtain ⟨B5, d5, rfl, hd5⟩ := own_form HR.out
      have hnb := own_nil9 HR.out
      have HSB := Lib.hid (own_strs HR.out).1
      rcases own_formk9 HO.out with ⟨rfl, hn0⟩ | ⟨g4, c4, rfl, hg4, hgs, hcl⟩
      · obtain rfl : xs = [] := List.length_eq_zero_iff.1 hn0
        have HSS := Lib.hid (show snaps = [] by rw [HSN.out]; exact List.mergeSort_nil)
        have HSO := Lib.hid fun W => ssort_none 0 none (.func (.func 35) #[] #[]) W
        go_wp2_with fail
        refine (HSO.out _).mono ?_
        rintro e w3 ⟨rfl, rfl⟩
        go_wp2
        go_ret3
        refine ⟨none, 0, B5, d5, by rw [HSS.out]; rfl, by rw [HSS.out]; exact fun h => absurd h (by simp), HSB.out, by rw [HSS.out]; exact Nat.le_refl _, hd5, fun _ => rfl, hnb, HB2.out⟩
      · have HSS := Lib.hid (show snaps.length = xs.length by rw [HSN.out]; exact sortSn_len xs)
        have HSO := Lib.hid (ssort_any D.tagOf g4 0 c4 xs wr (own_holdsS HO.out) hgs (by omega))
        rw [← HSN.out] at HSO
        have HAP := Lib.hid (own_apart HO.out HR.out (by decide))
        go_wp2_with fail
        refine HSO.out.mono ?_
        rintro e w3 ⟨rfl, hh3, ht3⟩
        have HH3 := Lib.hid hh3
        have HR3 := Lib.hid (own_strs (ownsRow_keep HR.out fun j hj => ht3.block j (ownsRow_lt HR.out hj).2 fun e => HAP.out j hj (by rw [e]; rfl))).1
        have HB3 := Lib.hid (HB2.out.trans (ht3.below (Nat.le_trans HB1.out.size HB.out.size) fun j hj e => by have := HB1.out.size; omega))
        have hz3 := ht3.size
        clear hh3 ht3 HSO
        go_wp2
        go_ret3
        refine ⟨some ⟨g4, 0, none⟩, c4, B5, d5, by rw [HSS.out]; rfl, fun _ => ⟨g4, rfl, by omega, HH3.out⟩, HR3.out, by rw [HSS.out]; exact hcl, hd5, (fun h => by cases h), hnb, HB3.out⟩
end Go.Proofs.YtpeepdkeicgkiaaGreatDoor
namespace Go.Proofs.YtpeepdkeicgkiaaGreatDoor
set_option linter.unusedVariables false
set_option linter.unusedSimpArgs false
set_option linter.unusedSectionVars false
open Go.RowKit Go.Maps Go.Shelf Go.Lib Go.Sort

theorem hexD_ok : ∀ n, n < 16 → isHex (hexD n).toNat = true ∧ nameByte (hexD n) = true := by decide +kernel
theorem hexL_mem {l : List UInt8} {c : UInt8} (h : c ∈ hexL l) : ∃ n, n < 16 ∧ c = hexD n := by
  unfold hexL at h
  obtain ⟨x, _, hx⟩ := List.mem_flatMap.1 h
  have := x.toNat_lt
  rcases List.mem_cons.1 hx with rfl | hx
  · exact ⟨_, by omega, rfl⟩
  · obtain rfl := List.mem_singleton.1 hx
    exact ⟨_, Nat.mod_lt _ (by decide), rfl⟩
theorem nameS_list (s : ByteArray) : (nameS s).data.toList = hexL (sumL s.data.toList) := bs_list _
theorem nameS_is (s : ByteArray) : isNameD (nameS s) = true := by
  unfold isNameD
  rw [nameS_size, nameS_list]
  simp only [decide_true, Bool.true_and]
  unfold allHex
  rw [List.all_eq_true]
  intro c hc
  obtain ⟨n, hn, rfl⟩ := hexL_mem hc
  exact (hexD_ok n hn).1
theorem frontS_list (s : ByteArray) : (frontS ++ s).data.toList = 115 :: s.data.toList := by
  rw [ByteArray.data_append, Array.toList_append]; rfl
theorem front_inj {a b : ByteArray} (h : frontS ++ a = frontS ++ b) : a = b := by
  have h1 := congrArg (fun x : ByteArray => x.data.toList) h
  simp only [frontS_list, List.cons.injEq, true_and] at h1
  exact ByteArray.ext (Array.toList_inj.1 h1)
theorem snapN_ok (s : ByteArray) : dkName (snapN s) = true := by
  unfold dkName
  rw [snapN_size]
  simp only [Nat.reduceLT, Nat.reduceLeDiff, decide_true, Bool.and_true]
  unfold snapN
  rw [frontS_list, List.all_cons, Bool.and_eq_true]
  refine ⟨by decide +kernel, List.all_eq_true.2 fun c hc => ?_⟩
  rw [nameS_list] at hc
  obtain ⟨n, hn, rfl⟩ := hexL_mem hc
  exact (hexD_ok n hn).2
theorem snapN_tmp (s : ByteArray) : snapN s ≠ tmpN := fun e => by
  have h := snapN_size s
  rw [e] at h
  exact absurd h (by decide)
theorem isP_snap (id : ByteArray) : isP frontS (frontS ++ id) = isNameD id := by
  unfold isP
  have e1 : (frontS ++ id).data.toList = frontS.data.toList ++ id.data.toList := by rw [ByteArray.data_append, Array.toList_append]
  have h1 : Lib.hasPrefix (frontS ++ id).data.toList frontS.data.toList = true := by
    rw [e1]; unfold Lib.hasPrefix
    simp
  have h2 : Lib.trimPrefix (frontS ++ id).data.toList frontS.data.toList = id.data.toList := by
    unfold Lib.trimPrefix
    rw [h1, e1]
    simp
  rw [h1, h2]
  have e : (⟨id.data.toList.toArray⟩ : ByteArray) = id := ByteArray.ext (by simp)
  rw [e, Bool.true_and]
theorem idOf_front (id : ByteArray) : idOf (frontS ++ id) = id := by
  unfold idOf
  apply ba_inj
  rw [ext_drop, frontS_list]; rfl
/-- a name that begins so -/
theorem isP_split {n : ByteArray} (h : isP frontS n = true) : ∃ id, n = frontS ++ id ∧ isNameD id = true := by
  have h0 := h
  unfold isP at h
  rw [Bool.and_eq_true] at h
  have h1 := h.1
  cases hn : n.data.toList with
  | nil => rw [hn] at h1; exact absurd h1 (by decide)
  | cons c r =>
    rw [hn] at h1
    have hc : c = 115 := by
      unfold Lib.hasPrefix at h1
      have e : frontS.data.toList = [115] := rfl
      rw [e] at h1
      simp at h1
      exact h1.symm
    have e : n = frontS ++ ⟨r.toArray⟩ := by
      apply ba_inj
      rw [frontS_list, hn, hc]
    rw [e, isP_snap] at h0
    exact ⟨_, e, h0⟩
/-- each file is a manifest's, of its own name -/
def Named (D : Dk) : Prop := ∀ n s, D.has n = some s → ∃ m, goodM m = true ∧ s = bs (manL m) ∧ n = snapN s
theorem Named.new (R : Int) : Named (dkNew R) := fun n s h => by cases h
theorem Named.load {D : Dk} (h : Named D) (hd : D.dead = false) {id : ByteArray} (hh : (D.has (frontS ++ id)).isSome = true) : ∃ m, goodM m = true ∧ D.has (frontS ++ id) = some (bs (manL m)) ∧ D.mload id = (m, 0) ∧ id = nameS (bs (manL m)) := by
  obtain ⟨s, hs⟩ := Option.isSome_iff_exists.1 hh
  obtain ⟨m, hg, rfl, hn⟩ := h _ _ hs
  have hid : id = nameS (bs (manL m)) := front_inj hn
  refine ⟨m, hg, hs, ?_, hid⟩
  have hl : D.load frontS (frontS ++ id) = (bs (manL m), 0) := by
    unfold Dk.load
    rw [isP_snap, hid, nameS_is, ← hid, read_has hd, hs]
    show (if true = false then _ else if (0 : Int) ≠ 0 then _ else if frontS ++ nameS (bs (manL m)) ≠ frontS ++ id then _ else _) = _
    rw [if_neg (by decide), if_neg (by decide), if_neg (by rw [hid]; exact fun h => h rfl)]
    rfl
  unfold Dk.mload
  rw [hl]
  show (if (0 : Int) ≠ 0 then _ else if (decS (bs (manL m))).2 ≠ 0 then _ else _) = _
  rw [if_neg (not_not_intro rfl), decS_text m hg, if_neg (not_not_intro rfl)]
theorem Named.front {D : Dk} (h : Named D) (ha : kvApart D.folder) {n : ByteArray} (hn : n ∈ kvNames D.folder) : ∃ id, n = frontS ++ id ∧ isP frontS n = true ∧ (D.has (frontS ++ id)).isSome = true := by
  have hh := (has_mem ha n).2 hn
  obtain ⟨s, hs⟩ := Option.isSome_iff_exists.1 hh
  obtain ⟨m, hg, rfl, e⟩ := h _ _ hs
  refine ⟨nameS (bs (manL m)), e, ?_, ?_⟩
  · rw [e]; show isP frontS (frontS ++ nameS (bs (manL m))) = true
    rw [isP_snap, nameS_is]
  · rw [← show snapN (bs (manL m)) = frontS ++ nameS (bs (manL m)) from rfl, ← e]; exact hh
theorem Named.names {D : Dk} (h : Named D) (ha : kvApart D.folder) : D.names frontS = kvNames D.folder := by
  unfold Dk.names
  rw [List.filter_eq_self]
  intro n hn
  obtain ⟨id, _, h2, _⟩ := h.front ha hn
  exact h2
theorem Named.okIds {D : Dk} (h : Named D) (hd : D.dead = false) (ha : kvApart D.folder) : ∀ id ∈ (D.names frontS).map idOf, D.okId id = true ∧ (D.has (frontS ++ id)).isSome = true := by
  intro id hid
  obtain ⟨n, hn, rfl⟩ := List.mem_map.1 hid
  rw [h.names ha] at hn
  obtain ⟨id, rfl, _, h3⟩ := h.front ha hn
  rw [idOf_front]
  obtain ⟨m, _, _, hl, _⟩ := h.load hd h3
  exact ⟨by unfold Dk.okId; rw [hl]; rfl, h3⟩
/-- nothing is spoilt -/
theorem Named.bads {D : Dk} (h : Named D) (hd : D.dead = false) (ha : kvApart D.folder) : D.bads = [] := by
  unfold Dk.bads Dk.badsL
  rw [List.filter_eq_nil_iff]
  intro id hid
  simp [(h.okIds hd ha id hid).1]
theorem Named.goods {D : Dk} (h : Named D) (hd : D.dead = false) (ha : kvApart D.folder) : D.goodsL (D.names frontS) = ((D.names frontS).map idOf).map D.snOf := by
  unfold Dk.goodsL
  rw [List.filter_eq_self.2 fun id hid => (h.okIds hd ha id hid).1]
theorem Named.snaps_len {D : Dk} (h : Named D) (hd : D.dead = false) (ha : kvApart D.folder) : D.snaps.length = D.folder.length := by
  unfold Dk.snaps
  rw [sortSn_len, h.goods hd ha, List.length_map, List.length_map, h.names ha, kvNames_len]
theorem Named.snaps_mem {D : Dk} (h : Named D) (hd : D.dead = false) (ha : kvApart D.folder) {x : Sn} (hx : x ∈ D.snaps) : (D.has (frontS ++ x.id)).isSome = true ∧ x = D.snOf x.id := by
  unfold Dk.snaps at hx
  have hx := (List.mergeSort_perm _ _).mem_iff.1 hx
  rw [h.goods hd ha] at hx
  obtain ⟨id, hid, rfl⟩ := List.mem_map.1 hx
  exact ⟨(h.okIds hd ha id hid).2, rfl⟩
/-- so many names, so many files -/
theorem folder_count {D : Dk} (ha : kvApart D.folder) {S : List ByteArray} (hS : S.Nodup) (h : ∀ n, (D.has n).isSome = true ↔ n ∈ S) : D.folder.length = S.length := by
  rw [← kvNames_len]
  exact (@mem_nodup_perm _ instBEqOfDecidableEq inferInstance _ _ (kvNames_nodup ha) hS fun n => by rw [← h n, has_mem ha n]).length_eq
theorem front_nodup {S : List ByteArray} (h : S.Nodup) : (S.map (frontS ++ ·)).Nodup := by
  unfold List.Nodup at *
  rw [List.pairwise_map]
  exact h.imp fun hne e => hne (front_inj e)
theorem few_size {m : Man} (h : goodM (fewM m) = true) : (bs (manL (fewM m))).size ≤ 2200 := by
  obtain ⟨⟨t1, t2⟩, g1, p1, ⟨z1, z2, c1, c2⟩, hc⟩ := good_parts h
  have h1 := (varF_len 10 (fewM m).time.toNat).2
  have h2 := (varF_len 10 (fewM m).tag.size).2
  have h3 := (varF_len 10 (fewM m).parent.size).2
  have h4 := (varF_len 10 (fewM m).size.toNat).2
  have h5 := (varF_len 10 (fewM m).chunks.length).2
  have h6 := cat_len (fewM m).chunks hc
  have h7 : (fewM m).chunks.length ≤ 60 := by simp only [fewM, List.length_take]; omega
  have hl : (manL (fewM m)).length = 4 + (varL (fewM m).time.toNat).length + ((varL (fewM m).tag.size).length + (fewM m).tag.size) + ((varL (fewM m).parent.size).length + (fewM m).parent.size) + (varL (fewM m).size.toNat).length + (varL (fewM m).chunks.length).length + (catL (fewM m).chunks).length := by
    unfold manL textL
    simp only [List.length_append, ba_len]
    rfl
  rw [bs_size, hl]
  unfold varL
  omega
/-- behind Publish, a disk at rest -/
def Dk.pubM (D : Dk) (m : Man) : Dk := if goodM m = true then D.pubR (snapN (bs (manL m))) (bs (manL m)) else D
theorem mpublish_rest {D : Dk} {N F : Nat} (h : Rest D 1048576 N F 2200) (hN : N ≤ 400) (m : Man) : D.mpublish (fewM m) = (D.pubM (fewM m), if goodM (fewM m) = true then (nameS (bs (manL (fewM m))), 0) else (⟨#[]⟩, 4)) := by
  unfold Dk.mpublish Dk.pubM
  by_cases hg : goodM (fewM m) = true
  · have hz := few_size hg
    rw [publish_rest h (snapN_ok _) (snapN_tmp _) (by omega)]
    simp only [hg, if_true]
    rfl
  · rw [Bool.not_eq_true] at hg
    simp only [hg, if_true]
    rfl
theorem pubM_rest {D : Dk} {N F : Nat} (h : Rest D 1048576 N F 2200) (m : Man) : Rest (D.pubM (fewM m)) 1048576 (N + 1) (F + 1) 2200 := by
  unfold Dk.pubM
  split
  · next hg => exact pubR_rest h (snapN_ok _) (snapN_tmp _) (few_size hg) (by decide)
  · exact h.mono (by omega) (by omega)
theorem pubM_has {D : Dk} (ok : DkOk D) (m : Man) (n : ByteArray) : (D.pubM m).has n = if goodM m = true ∧ n = snapN (bs (manL m)) then some (bs (manL m)) else D.has n := by
  unfold Dk.pubM
  by_cases hg : goodM m = true
  · rw [if_pos hg, pubR_has ok]
    by_cases hn : n = snapN (bs (manL m))
    · rw [if_pos hn, if_pos ⟨hg, hn⟩]
    · rw [if_neg hn, if_neg fun e => hn e.2]
  · rw [if_neg hg, if_neg fun e => hg e.1]
theorem pubM_named {D : Dk} (ok : DkOk D) (h : Named D) (m : Man) : Named (D.pubM m) := by
  intro n s hs
  rw [pubM_has ok] at hs
  split at hs
  · next e => exact ⟨m, e.1, (Option.some.inj hs).symm, by rw [← Option.some.inj hs]; exact e.2⟩
  · exact h n s hs
end Go.Proofs.YtpeepdkeicgkiaaGreatDoor
namespace Go.Proofs.YtpeepdkeicgkiaaGreatDoor
set_option linter.unusedVariables false
set_option linter.unusedSimpArgs false
set_option linter.unusedSectionVars false
open Go.RowKit Go.Maps

/-- the disk, and two rows of texts beside it -/
def GI (w0 w : World) (b : Nat) (D : Dk) (av gv : Value) (all gone : List ByteArray) : Prop :=
  ∃ L, DiskAt w b D L ∧ Below w0.heap.size w0 w ∧ (∀ k ∈ foot b L, w0.heap.size ≤ k) ∧ w.ownsRow w0.heap.size 9 1 av all.length (all.map .string) ∧ w.ownsRow w0.heap.size 9 1 gv gone.length (gone.map .string) ∧
    (∀ k, av.ownBlock = some k → k ∉ foot b L) ∧ (∀ k, gv.ownBlock = some k → k ∉ foot b L) ∧ (∀ k, av.ownBlock = some k → gv.ownBlock ≠ some k)
section
variable {w0 w w' : World} {b : Nat} {D D' : Dk} {av gv : Value} {all gone : List ByteArray}
theorem GI.bel (h : GI w0 w b D av gv all gone) : Below w0.heap.size w0 w := h.elim fun _ h => h.2.1
theorem GI.ok (h : GI w0 w b D av gv all gone) : DkOk D := h.elim fun _ h => h.1.ok
theorem GI.up (h : GI w0 w b D av gv all gone) (hb : Below w.heap.size w w') : GI w0 w' b D av gv all gone := by
  obtain ⟨L, h1, h2, h3, h4, h5, h6⟩ := h
  exact ⟨L, h1.below hb, h2.trans (hb.mono h2.size), h3, ownsRow_below h4 hb, ownsRow_below h5 hb, h6⟩
theorem GI.disk {f : FuncId} {args : Array Value} {r : Value} (h : GI w0 w b D av gv all gone) (hc : ∀ L, DiskAt w b D L → Calls Tryz.prog f args w fun e w' => e = .returned r ∧ DkPost b L D' w w') :
    Calls Tryz.prog f args w fun e w' => e = .returned r ∧ GI w0 w' b D' av gv all gone := by
  obtain ⟨L, h1, h2, h3, h4, h5, h6, h7, h8⟩ := h
  refine (hc L h1).mono fun e w' ⟨q, hp⟩ => ⟨q, ?_⟩
  obtain ⟨L', q1, q2, q3⟩ := hp
  have hz := h2.size
  refine ⟨L', q1, h2.trans (q2.below hz fun k hk hm => by have := h3 k hm; omega), fun k hk => (q3 k hk).elim (h3 k) (fun e => by omega),
    ownsRow_keep h4 fun k hk => q2.block k (ownsRow_lt h4 hk).2 (h6 k hk), ownsRow_keep h5 fun k hk => q2.block k (ownsRow_lt h5 hk).2 (h7 k hk), fun k hk hm => ?_, fun k hk hm => ?_, h8⟩
  · rcases q3 k hm with e | e
    · exact h6 k hk e
    · have := (ownsRow_lt h4 hk).2; omega
  · rcases q3 k hm with e | e
    · exact h7 k hk e
    · have := (ownsRow_lt h5 hk).2; omega
/-- a text more in the first row -/
theorem GI.appA (h : GI w0 w b D av gv all gone) {x : ByteArray} {g c : Nat} (ho : w'.ownsRow w0.heap.size 9 1 (.slice (some ⟨g, 0, none⟩) (all.length + 1) c) (all.length + 1) (all.map .string ++ [.string x])) (hg : w.grownBy w' av.ownBlock) (hb : Below w0.heap.size w w') (hl : av.ownBlock = some g ∨ g = w.heap.size + 1) :
    GI w0 w' b D (.slice (some ⟨g, 0, none⟩) (all.length + 1) c) gv (all ++ [x]) gone := by
  obtain ⟨L, h1, h2, h3, h4, h5, h6, h7, h8⟩ := h
  have hf : ∀ k ∈ foot b L, w'.heap[k]? = w.heap[k]? := fun k hk => hg.block k (h1.flt k hk) fun e => h6 k e.symm hk
  have hgne : g ∉ foot b L := fun hm => by
    rcases hl with e | e
    · exact h6 g e hm
    · have := h1.flt g hm; omega
  refine ⟨L, h1.keepB hf, h2.trans hb, h3, by rw [List.length_append, List.map_append]; exact ho, ownsRow_keep h5 fun k hk => hg.block k (ownsRow_lt h5 hk).2 fun e => h8 k e.symm hk, fun k hk => ?_, h7, fun k hk hk2 => ?_⟩
  · obtain rfl : g = k := by simpa [Value.ownBlock] using hk
    exact hgne
  · obtain rfl : g = k := by simpa [Value.ownBlock] using hk
    rcases hl with e | e
    · exact h8 g e hk2
    · have := (ownsRow_lt h5 hk2).2; omega
/-- a text more in the second row -/
theorem GI.appG (h : GI w0 w b D av gv all gone) {x : ByteArray} {g c : Nat} (ho : w'.ownsRow w0.heap.size 9 1 (.slice (some ⟨g, 0, none⟩) (gone.length + 1) c) (gone.length + 1) (gone.map .string ++ [.string x])) (hg : w.grownBy w' gv.ownBlock) (hb : Below w0.heap.size w w') (hl : gv.ownBlock = some g ∨ g = w.heap.size + 1) :
    GI w0 w' b D av (.slice (some ⟨g, 0, none⟩) (gone.length + 1) c) all (gone ++ [x]) := by
  obtain ⟨L, h1, h2, h3, h4, h5, h6, h7, h8⟩ := h
  have hf : ∀ k ∈ foot b L, w'.heap[k]? = w.heap[k]? := fun k hk => hg.block k (h1.flt k hk) fun e => h7 k e.symm hk
  have hgne : g ∉ foot b L := fun hm => by
    rcases hl with e | e
    · exact h7 g e hm
    · have := h1.flt g hm; omega
  refine ⟨L, h1.keepB hf, h2.trans hb, h3, ownsRow_keep h4 fun k hk => hg.block k (ownsRow_lt h4 hk).2 fun e => h8 k hk e.symm, by rw [List.length_append, List.map_append]; exact ho, h6, fun k hk => ?_, fun k hk hk2 => ?_⟩
  · obtain rfl : g = k := by simpa [Value.ownBlock] using hk
    exact hgne
  · obtain rfl : g = k := by simpa [Value.ownBlock] using hk2
    rcases hl with e | e
    · exact h8 g hk e
    · have := (ownsRow_lt h4 hk).2; omega
theorem GI.formA (h : GI w0 w b D av gv all gone) : ∃ A c, av = .slice A all.length c ∧ StrsA w w.heap.size A all ∧ all.length ≤ c := by
  obtain ⟨L, _, _, _, h4, _⟩ := h
  obtain ⟨A, c, rfl, hc⟩ := own_form h4
  exact ⟨A, c, rfl, (own_strs h4).1, hc⟩
theorem GI.formG (h : GI w0 w b D av gv all gone) : ∃ A c, gv = .slice A gone.length c ∧ StrsA w w.heap.size A gone ∧ gone.length ≤ c := by
  obtain ⟨L, _, _, _, _, h5, _⟩ := h
  obtain ⟨A, c, rfl, hc⟩ := own_form h5
  exact ⟨A, c, rfl, (own_strs h5).1, hc⟩
end
/-- a row of manifests that came in -/
def MansI (w : World) (A : Option Addr) (l : List Man) : Prop := 0 < l.length → ∃ b o, A = some ⟨b, o, none⟩ ∧ b < w.heap.size ∧ ∀ (i : Nat) (m : Man), l[i]? = some m → ∃ B c, (∀ (j : Nat) (u : Value), (mcells m B c)[j]? = some u → w.cell? ⟨b, o + i * 5 + j, none⟩ = some u) ∧ ManIn w m B c
theorem ManIn.up {w W : World} {m : Man} {A : Option Addr} {c : Nat} (h : ManIn w m A c) (hb : Below w.heap.size w W) : ManIn W m A c := ⟨strsA_up h.1 hb, h.2⟩
theorem MansI.up {w W : World} {A : Option Addr} {l : List Man} (h : MansI w A l) (hb : Below w.heap.size w W) : MansI W A l := fun hl => by
  obtain ⟨b, o, e, hlt, hc⟩ := h hl
  refine ⟨b, o, e, Nat.lt_of_lt_of_le hlt hb.size, fun i m hi => ?_⟩
  obtain ⟨B, c, h1, h2⟩ := hc i m hi
  exact ⟨B, c, fun j u hj => (hb.cell (p := ⟨b, o + i * 5 + j, none⟩) hlt).trans (h1 j u hj), h2.up hb⟩
end Go.Proofs.YtpeepdkeicgkiaaGreatDoor
