/- The disk: what lies in memory, and what each call of it does. The disk's state: plain data, and how it lies in memory. The disk's Append. The disk's Append to a file that isn't there yet; Append as a whole. The disk's Read, Sync, New. The disk's Remove and Rename. A crash: what keeps says, and where it points. The library's slices.Sorted(maps.Keys(m)) at this seat: laid by the kit's lay-iter.mjs and lay-plain.mjs. The keys of a map with string keys, sorted. A crash, plainly. A disk's calls and their bounds (stand-in at this seat: no log here). A crash: laws that its walk needs. A crash: its walk. The disk's list of names. A disk's plain laws: what is used, what a crash leaves. A tree's files on a disk: the plain law of CellarerFiles: appended and synced. A tree's files on a disk: what goes on beside them, and a crash. A tree's files on a disk behind a crash: how many names, how many bytes. A tree's files on a disk: the walk's kit: the disk beside a row of items. Rows of texts and of numbers that came in as arguments. CellarerFiles: its walk. -/
import Derived.Test.YtaoejgnfoecpfaaDoorJt12
import Derived.Deep.RegionHeld3
import Derived.Deep.RegionWith
import Derived.StillTailTactics
import Derived.Deep.DeepCutAuto
import Derived.Shelf.SlMaps.Clone
import Derived.Shelf.SlIter.Nil
import Derived.Shelf.SortM.Plain
import Derived.Shelf.SortM.SortNone
import Derived.Ground.GgzProg
import Derived.Ground.SlgmProg
import Derived.Test.YtaoejgnfoecpfaaDoorChecked
import Derived.LaidEqlPtr
import Derived.Test.YtaoejgnfoecpfaaDoorJt20
import Derived.Test.YtaoejgnfoecpfaaDoorJt22
import Derived.Test.YtaoejgnfoecpfaaDoorJt13
namespace Go.Proofs.YtaoejgnfoecpfaaDoor
set_option linter.unusedVariables false
set_option linter.unusedSimpArgs false
set_option linter.unusedSectionVars false
open Go.RowKit Go.Maps

def BlockIs (w : World) (b : Nat) (cs : Array Value) (t : TypeId) : Prop := w.heap[b]? = some (.cells cs t (0, 0))
theorem BlockIs.cell {w : World} {b : Nat} {cs : Array Value} {t : TypeId} (h : BlockIs w b cs t) (i : Nat) : w.cell? ⟨b, i, none⟩ = cs[i]? := by
  unfold BlockIs at h; simp [World.cell?, h]
theorem BlockIs.free {w : World} {b : Nat} {cs : Array Value} {t : TypeId} (h : BlockIs w b cs t) (i : Nat) : w.frozen? ⟨b, i, none⟩ = false := by
  unfold BlockIs at h; simp [World.frozen?, h]
theorem BlockIs.set {w : World} {b : Nat} {cs : Array Value} {t : TypeId} (h : BlockIs w b cs t) (i : Nat) (v : Value) : BlockIs (w.setCell ⟨b, i, none⟩ v) b (cs.setIfInBounds i v) t := by
  unfold BlockIs at h ⊢; simp [World.setCell, Array.getElem?_modify, h]
theorem BlockIs.keep {w w' : World} {b : Nat} {cs : Array Value} {t : TypeId} (h : BlockIs w b cs t) (he : w'.heap[b]? = w.heap[b]?) : BlockIs w' b cs t := he.trans h
theorem BlockIs.lt {w : World} {b : Nat} {cs : Array Value} {t : TypeId} (h : BlockIs w b cs t) : b < w.heap.size := (Array.getElem?_eq_some_iff.1 h).1
theorem BlockIs.new (w : World) (cs : Array Value) (t : TypeId) : BlockIs (w.alloc (.cells cs t)) w.heap.size cs t := (MapKept.heap_alloc w _).1

def dkCells (room : Int) (bm bs : Nat) (v : Value) (arm : Int) (dead : Bool) : Array Value := #[.int .i64 room, .map (some bm), .map (some bs), v, .int .i64 arm, .bool dead]

/-- the disk's count-down: the number that is left, dead or not -/
def armNext (arm : Int) (dead : Bool) : Int × Bool := if arm = 0 then (-1, true) else if 0 < arm then (arm - 1, dead) else (arm, dead)

set_option maxRecDepth 100000 in
set_option maxHeartbeats 400000 in
theorem alive_any (b : Nat) (room : Int) (bm bs : Nat) (v : Value) (arm : Int) (dead : Bool) (w : World) (h : BlockIs w b (dkCells room bm bs v arm dead) 121) (ha : -1 ≤ arm ∧ arm ≤ 9223372036854775807) :
    Calls Tryd.prog 77 #[.pointer (some ⟨b, 0, none⟩)] w fun e w' => e = .returned (.bool (!(armNext arm dead).2)) ∧
      BlockIs w' b (dkCells room bm bs v (armNext arm dead).1 (armNext arm dead).2) 121 ∧ Touch (· = b) w w' := by
  have c4 : w.cell? ⟨b, 4, none⟩ = some (.int .i64 arm) := h.cell 4
  have c5 : w.cell? ⟨b, 5, none⟩ = some (.bool dead) := h.cell 5
  have f4 : w.frozen? ⟨b, 4, none⟩ = false := h.free 4
  have f5 : w.frozen? ⟨b, 5, none⟩ = false := h.free 5
  have H := Lib.hid h
  clear h
  rcases Int.lt_trichotomy arm 0 with h0 | h0 | h0
  · have e : armNext arm dead = (arm, dead) := by unfold armNext; rw [if_neg (by omega), if_neg (by omega)]
    have E := Lib.hid e
    clear e
    go_enter Tryd.func77, Tryd.ntmps77
    go_wp2
    go_ret
    rw [E.out]
    exact ⟨rfl, H.out, Touch.refl _ _⟩
  · subst h0
    go_enter Tryd.func77, Tryd.ntmps77
    go_wp2
    go_ret
    exact ⟨rfl, (H.out.set 5 (.bool true)).set 4 (.int .i64 (-1)), (Touch.setc _ _ _ _).trans (Touch.setc _ _ _ _) (fun _ _ h => h)⟩
  · have e : armNext arm dead = (arm - 1, dead) := by unfold armNext; rw [if_neg (by omega), if_pos h0]
    have E := Lib.hid e
    clear e
    go_enter Tryd.func77, Tryd.ntmps77
    go_wp2
    go_ret
    rw [E.out]
    exact ⟨rfl, H.out.set 4 (.int .i64 (arm - 1)), Touch.setc _ _ _ _⟩

def nameByte (c : UInt8) : Bool := decide (32 < c.toNat) && decide (c.toNat ≤ 126) && decide (c.toNat ≠ 47)
theorem nameByte_yes {c : UInt8} (h : 32 < (c.toNat : Int) ∧ (c.toNat : Int) ≤ 126 ∧ (c.toNat : Int) ≠ 47) : nameByte c = true := by simp [nameByte]; omega
theorem nameByte_no {c : UInt8} (h : (c.toNat : Int) ≤ 32 ∨ 126 < (c.toNat : Int) ∨ (c.toNat : Int) = 47) : nameByte c = false := by simp [nameByte]; omega
/-- may a file be called so? -/
def dkName (s : ByteArray) : Bool := s.data.toList.all nameByte && decide (0 < s.size) && decide (s.size ≤ 80)

set_option maxRecDepth 100000 in
set_option maxHeartbeats 400000 in
theorem name_any (s : ByteArray) (w : World) (hs : s.size ≤ 9223372036854775807) :
    Calls Tryd.prog 78 #[.string s] w fun e w' => e = .returned (.bool (dkName s)) ∧ Below w.heap.size w w' := by
  obtain ⟨cap, w1, hcv, hb, hz, hcell⟩ := bytes_of_string (P := Tryd.prog) w 9 46 5 s Tryd.underlying9 Tryd.underlying46 Tryd.underlying5
  have Hcell := Lib.hid hcell
  clear hcell
  go_enter Tryd.func78, Tryd.ntmps78
  go_wp2
  go_loop [8] (fun i => ∃ k : Nat, k ≤ s.size ∧ i = .int .i64 k ∧ (s.data.toList.take k).all nameByte = true) (fun i => s.size - (intOf i).toNat)
  case atStart => exact ⟨0, Nat.zero_le _, rfl, rfl⟩
  case round =>
    obtain ⟨k, hk, rfl, hall⟩ := hrel
    have Hall := Lib.hid hall
    clear hall
    by_cases hlt : k < s.size
    · have hc := Hcell.out k hlt
      have Hf : nameByte s[k] = false → dkName s = false := by
        intro h; unfold dkName; rw [ba_all_false s k hlt h]; rfl
      have Hs := ba_all_snoc (p := nameByte) s k hlt Hall.out
      generalize s[k] = c at hc Hf Hs
      have HF := Lib.hid Hf
      have HS := Lib.hid Hs
      clear Hf Hs
      rcases (by omega : (c.toNat : Int) ≤ 32 ∨ (32 < (c.toNat : Int) ∧ 126 < (c.toNat : Int)) ∨ (c.toNat : Int) = 47 ∨ (32 < (c.toNat : Int) ∧ (c.toNat : Int) ≤ 126 ∧ (c.toNat : Int) ≠ 47)) with h1 | ⟨h1, h2⟩ | h1 | ⟨h1, h2, h3⟩
      · go_wp2
        go_ret
        exact ⟨ret_bool (HF.out (nameByte_no (by omega))).symm, hb⟩
      · go_wp2
        go_ret
        exact ⟨ret_bool (HF.out (nameByte_no (by omega))).symm, hb⟩
      · have h1' := Lib.hid h1
        go_wp2
        go_ret
        exact ⟨ret_bool (HF.out (nameByte_no (by have := h1'.out; omega))).symm, hb⟩
      · have h4 : ((c.toNat : Int) == 47) = false := by simp; omega
        go_wp2
        go_round
        case rel => exact ⟨k + 1, by omega, by go_num, HS.out (nameByte_yes (by omega))⟩
        case measure => simp [intOf]; omega
    · obtain rfl : k = s.size := by omega
      have e : dkName s = (!s.toList.isEmpty && decide ((s.size : Int) ≤ 80)) := by
        unfold dkName
        have ha := Hall.out
        rw [ba_take_all] at ha
        rw [ha, toList_isEmpty]
        rw [Bool.eq_iff_iff]
        simp only [Bool.true_and, Bool.and_eq_true, decide_eq_true_eq, Bool.not_eq_true', decide_eq_false_iff_not]
        omega
      have E := Lib.hid e
      clear e
      by_cases h0 : s.toList = []
      · go_wp2
        go_ret
        exact ⟨ret_bool (by rw [E.out, h0]; rfl), hb⟩
      · go_wp2
        go_ret
        exact ⟨ret_bool E.out.symm, hb⟩
end Go.Proofs.YtaoejgnfoecpfaaDoor
namespace Go.Proofs.YtaoejgnfoecpfaaDoor
set_option linter.unusedVariables false
set_option linter.unusedSimpArgs false
set_option linter.unusedSectionVars false
open Go.RowKit Go.Maps

structure Fl where
  data : ByteArray
  safe : Nat
structure Sp where
  kind : Int
  src : ByteArray
  dst : ByteArray
  id : Nat
structure Dk where
  room : Int
  files : List Fl
  folder : List (ByteArray × Nat)
  sure : List (ByteArray × Nat)
  steps : List Sp
  arm : Int
  dead : Bool
/-- where it lies: the maps' blocks, the steps' slice, the files' blocks -/
structure Lay where
  bm : Nat
  sm : Nat
  v : Value
  bs : List Nat

def ptrV (b : Nat) : Value := .pointer (some ⟨b, 0, none⟩)
def fileV (bs : List Nat) (i : Nat) : Value := ptrV (bs.getD i 0)
def flCells (f : Fl) : Array Value := #[.string f.data, .int .i64 f.safe]
def stepCells (bs : List Nat) (s : Sp) : List Value := [.int .i64 s.kind, .string s.src, .string s.dst, fileV bs s.id]
def Dk.flAt (D : Dk) (i : Nat) : Fl := D.files.getD i ⟨ByteArray.empty, 0⟩

/-- ids are ids of files; names and bytes are no longer than may be -/
structure DkOk (D : Dk) : Prop where
  fol : ∀ p ∈ D.folder, p.2 < D.files.length
  sur : ∀ p ∈ D.sure, p.2 < D.files.length
  stp : ∀ s ∈ D.steps, s.id < D.files.length ∧ s.src.size ≤ 80 ∧ s.dst.size ≤ 80
  fap : kvApart D.folder
  sap : kvApart D.sure
  fln : D.folder.length ≤ D.files.length
  sln : D.sure.length ≤ D.files.length
  dat : ∀ f ∈ D.files, f.data.size ≤ 1073741824 ∧ f.safe ≤ f.data.size
  arm : -1 ≤ D.arm ∧ D.arm ≤ 9223372036854775807
  rm : 0 ≤ D.room ∧ D.room ≤ 1073741824
  nam : ∀ p ∈ D.folder, p.1.size ≤ 80
  snm : ∀ p ∈ D.sure, p.1.size ≤ 80

def foot (b : Nat) (L : Lay) : List Nat := b :: L.bm :: L.sm :: (L.v.ownBlock.toList ++ L.bs)

structure DiskAt (w : World) (b : Nat) (D : Dk) (L : Lay) : Prop where
  blk : BlockIs w b (dkCells D.room L.bm L.sm L.v D.arm D.dead) 121
  mp : ownsKV w Tryd.prog 9 L.bm (kvMap (fileV L.bs) D.folder)
  sf : ownsKV w Tryd.prog 9 L.sm (kvMap (fileV L.bs) D.sure)
  st : w.ownsRow 0 128 4 L.v D.steps.length (D.steps.flatMap (stepCells L.bs))
  len : L.bs.length = D.files.length
  fs : ∀ i, i < D.files.length → BlockIs w (L.bs.getD i 0) (flCells (D.flAt i)) 126
  nd : (foot b L).Nodup
  ok : DkOk D

theorem ownsRow_keep {w w' : World} {base : Nat} {e : TypeId} {size n : Nat} {v : Value} {xs : List Value} (h : w.ownsRow base e size v n xs) (hk : ∀ k, v.ownBlock = some k → w'.heap[k]? = w.heap[k]?) : w'.ownsRow base e size v n xs := by
  obtain ⟨h1, h2⟩ := h
  refine ⟨h1, ?_⟩
  rcases h2 with h2 | ⟨g, cap, cur, hv, hg, hh, r⟩
  · exact Or.inl h2
  · exact Or.inr ⟨g, cap, cur, hv, hg, by rw [hk g (by rw [hv]; rfl)]; exact hh, r⟩
theorem ownsRow_lt {w : World} {base : Nat} {e : TypeId} {size n : Nat} {v : Value} {xs : List Value} (h : w.ownsRow base e size v n xs) {k : Nat} (hk : v.ownBlock = some k) : base ≤ k ∧ k < w.heap.size := by
  obtain ⟨_, h2 | ⟨g, cap, cur, hv, hg, hh, _⟩⟩ := h
  · rw [h2.1] at hk; simp [Value.ownBlock] at hk
  · rw [hv] at hk
    simp [Value.ownBlock] at hk
    subst hk
    exact ⟨hg, (Array.getElem?_eq_some_iff.1 hh).1⟩

theorem DiskAt.flt {w : World} {b : Nat} {D : Dk} {L : Lay} (h : DiskAt w b D L) : ∀ k ∈ foot b L, k < w.heap.size := by
  intro k hk
  simp only [foot, List.mem_cons, List.mem_append, Option.mem_toList] at hk
  rcases hk with rfl | rfl | rfl | hk | hk
  · exact h.blk.lt
  · exact ownsKV_lt h.mp
  · exact ownsKV_lt h.sf
  · exact (ownsRow_lt h.st hk).2
  · obtain ⟨i, hi, rfl⟩ := List.getElem_of_mem hk
    have := (h.fs i (by rw [← h.len]; exact hi)).lt
    simpa [List.getD, List.getElem?_eq_getElem hi] using this

theorem DiskAt.keepB {w w' : World} {b : Nat} {D : Dk} {L : Lay} (h : DiskAt w b D L) (hk : ∀ k ∈ foot b L, w'.heap[k]? = w.heap[k]?) : DiskAt w' b D L where
  blk := h.blk.keep (hk b (by simp [foot]))
  mp := ownsKV_block h.mp (hk _ (by simp [foot]))
  sf := ownsKV_block h.sf (hk _ (by simp [foot]))
  st := ownsRow_keep h.st fun k hv => hk k (by simp [foot, hv])
  len := h.len
  fs := fun i hi => (h.fs i hi).keep (hk _ (by
    have hi' : i < L.bs.length := by rw [h.len]; exact hi
    simp [foot, List.getD, List.getElem?_eq_getElem hi']))
  nd := h.nd
  ok := h.ok

theorem DiskAt.keep {w w' : World} {b : Nat} {D : Dk} {L : Lay} {G : Nat → Prop} (h : DiskAt w b D L) (ht : Touch G w w') (hG : ∀ k ∈ foot b L, ¬ G k) : DiskAt w' b D L :=
  h.keepB fun k hk => ht.block k (h.flt k hk) (hG k hk)
theorem DiskAt.below {w w' : World} {b : Nat} {D : Dk} {L : Lay} (h : DiskAt w b D L) (ht : Below w.heap.size w w') : DiskAt w' b D L :=
  h.keepB fun k hk => ht.block k (h.flt k hk)

/-- all files' bytes -/
def Dk.used (D : Dk) : Nat := kvSum (fun i => (D.flAt i).data.size) D.folder

theorem kvSum_le {α : Type} (f : α → Nat) (l : List (ByteArray × α)) (m : Nat) (h : ∀ p ∈ l, f p.2 ≤ m) : kvSum f l ≤ l.length * m := by
  induction l with
  | nil => simp [kvSum]
  | cons x r ih =>
    have h1 := h x (by simp)
    have h2 := ih (fun p hp => h p (by simp [hp]))
    simp only [kvSum, List.map_cons, List.sum_cons, List.length_cons] at h2 ⊢
    rw [Nat.succ_mul]; omega
theorem flAt_le {D : Dk} (h : DkOk D) (i : Nat) : (D.flAt i).data.size ≤ 1073741824 ∧ (D.flAt i).safe ≤ (D.flAt i).data.size := by
  unfold Dk.flAt List.getD
  cases hf : D.files[i]? with
  | none => simp
  | some f => exact h.dat f (List.mem_of_getElem? hf)

theorem zero_ptr (w : World) : (zeroValue 123).run Tryd.prog w = .ok (.pointer none) w := by kernel_rfl

/-- how long the file is that a pointer leads to -/
def szV (w : World) (v : Value) : Nat := match v with
  | .pointer (some a) => match w.cell? a with
    | some (.string s) => s.size
    | _ => 0
  | _ => 0
theorem szV_file {w : World} {b : Nat} {D : Dk} {L : Lay} (h : DiskAt w b D L) {i : Nat} (hi : i < D.files.length) : szV w (fileV L.bs i) = (D.flAt i).data.size := by
  have hc := (h.fs i hi).cell 0
  simp only [flCells] at hc
  simp only [szV, fileV, ptrV]
  rw [hc]; rfl
theorem used_szV {w : World} {b : Nat} {D : Dk} {L : Lay} (h : DiskAt w b D L) : kvSum (szV w) (kvMap (fileV L.bs) D.folder) = D.used := by
  unfold kvSum Dk.used kvSum kvMap
  rw [List.map_map]
  congr 1
  exact List.map_congr_left fun p hp => szV_file h (h.ok.fol p hp)
theorem used_le {D : Dk} (h : DkOk D) (hn : D.files.length ≤ 1048576) : D.used ≤ 1125899906842624 := by
  have h1 := kvSum_le (fun i => (D.flAt i).data.size) D.folder 1073741824 (fun p _ => (flAt_le h p.2).1)
  have h2 := h.fln
  have h3 : D.folder.length * 1073741824 ≤ 1048576 * 1073741824 := Nat.mul_le_mul_right _ (by omega)
  unfold Dk.used
  omega

set_option maxRecDepth 100000 in
set_option maxHeartbeats 400000 in
theorem used_any (b : Nat) (D : Dk) (L : Lay) (w : World) (h : DiskAt w b D L) (hn : D.files.length ≤ 1048576) :
    Calls Tryd.prog 39 #[.pointer (some ⟨b, 0, none⟩)] w fun e w' => e = .returned (.int .i64 D.used) ∧ Below w.heap.size w w' := by
  have c1 : w.cell? ⟨b, 1, none⟩ = some (.map (some L.bm)) := h.blk.cell 1
  have hmp := h.mp
  have hul := used_le h.ok hn
  have H := Lib.hid h
  clear h
  go_enter Tryd.func39, Tryd.ntmps39
  go_wp2_with (first | (at_range; refine wpList_kvRange rfl _ 118 rfl Tryd.underlying9 Tryd.underlying118 rfl hmp ?_; intro w0 cnt0 hr0 hb0 hs0) | go_in)
  go_frame
  go_loopw [3] (fun n wr => ∃ (t : Nat) (todo : List (ByteArray × Value)) (cnt : Nat), n = .int .i64 t ∧ t ≤ D.used ∧ t + kvSum (szV w) todo = D.used ∧ rangesKV wr Tryd.prog 9 L.bm w.heap.size (kvMap (fileV L.bs) D.folder) todo cnt ∧ Below w.heap.size w wr) (fun _ wr => wr.rangeLeft L.bm w.heap.size)
  case atStart => exact ⟨0, _, _, rfl, Nat.zero_le _, by rw [Nat.zero_add]; exact used_szV H.out, hr0, hb0⟩
  case round =>
    obtain ⟨t, todo, cnt, rfl, htu, hsum, hrg, hb⟩ := hrel
    have Hsum := Lib.hid hsum
    clear hsum
    go_wp2_with (first | (at_next; refine wpList_kvNext rfl _ rfl Tryd.underlying9 rfl hrg ?_ ?_) | go_in)
    · intro htodo
      have Ht := Lib.hid htodo
      clear htodo
      go_wp2
      go_ret
      refine ⟨ret_int ?_, hb⟩
      have := Hsum.out
      rw [Ht.out] at this
      simp [kvSum] at this
      rw [this]
    · intro s v w' cnt' hmem hsl hrg' hlt hgr hsz hen
      obtain ⟨p, hp, hpv⟩ := List.mem_map.1 (hrg.sub _ hmem)
      simp only [Prod.mk.injEq] at hpv
      obtain ⟨hp1, rfl⟩ := hpv
      have hi := H.out.ok.fol p hp
      have hapart : kvApart todo := hrg.apart (kvApart_map.2 H.out.ok.fap)
      have hdel := kvSum_del (szV w) hapart hmem
      rw [szV_file H.out hi] at hdel
      have hblk : BlockIs w' (L.bs.getD p.2 0) (flCells (D.flAt p.2)) 126 := by
        have h1 := H.out.fs p.2 hi
        refine h1.keep ?_
        rw [hgr.block _ (Nat.lt_of_lt_of_le h1.lt hb.size) (fun e => Nat.lt_irrefl _ (Option.some.inj e ▸ h1.lt)), hb.block _ h1.lt]
      have hc : w'.cell? ⟨L.bs.getD p.2 0, 0, none⟩ = some (.string (D.flAt p.2).data) := hblk.cell 0
      have hb' : Below w.heap.size w w' := hb.grown hgr hb.size (by simp)
      have hz := (flAt_le H.out.ok p.2).1
      have hs2 := Hsum.out
      have hle : t + (D.flAt p.2).data.size ≤ D.used := by omega
      have HD := Lib.hid hdel
      have HP := Lib.hid hp1
      clear hdel hs2 hp1
      unfold fileV ptrV at hen ⊢
      generalize L.bs.getD p.2 0 = c at hc hen hblk ⊢
      go_wp2
      go_roundw
      case rel =>
        refine ⟨t + (D.flAt p.2).data.size, _, cnt', by go_num, hle, ?_, hrg', hb'⟩
        have h1 := Hsum.out
        have h2 := HD.out
        omega
      case measure => rw [hrg'.size, hrg.size]; exact hlt
end Go.Proofs.YtaoejgnfoecpfaaDoor
namespace Go.Proofs.YtaoejgnfoecpfaaDoor
set_option linter.unusedVariables false
set_option linter.unusedSimpArgs false
set_option linter.unusedSectionVars false
open Go.RowKit Go.Maps

def Dk.alive (D : Dk) : Dk := { D with arm := (armNext D.arm D.dead).1, dead := (armNext D.arm D.dead).2 }
theorem armNext_ok {arm : Int} {dead : Bool} (h : -1 ≤ arm ∧ arm ≤ 9223372036854775807) : -1 ≤ (armNext arm dead).1 ∧ (armNext arm dead).1 ≤ 9223372036854775807 := by
  unfold armNext; split
  · simp
  · split <;> simp <;> omega
theorem DkOk.alive {D : Dk} (h : DkOk D) : DkOk D.alive := ⟨h.fol, h.sur, h.stp, h.fap, h.sap, h.fln, h.sln, h.dat, armNext_ok h.arm, h.rm, h.nam, h.snm⟩

theorem nd_ne {b : Nat} {L : Lay} (h : (foot b L).Nodup) : ∀ k ∈ L.bm :: L.sm :: (L.v.ownBlock.toList ++ L.bs), k ≠ b := by
  have := (List.nodup_cons.1 h).1
  exact fun k hk e => this (e ▸ hk)

/-- The disk's own cells are written anew. -/
theorem DiskAt.cells {w w' : World} {b : Nat} {D : Dk} {L : Lay} (h : DiskAt w b D L) (arm : Int) (dead : Bool) (ha : -1 ≤ arm ∧ arm ≤ 9223372036854775807)
    (hb : BlockIs w' b (dkCells D.room L.bm L.sm L.v arm dead) 121) (ht : Touch (· = b) w w') : DiskAt w' b { D with arm := arm, dead := dead } L := by
  have hne := nd_ne h.nd
  have hk : ∀ k ∈ L.bm :: L.sm :: (L.v.ownBlock.toList ++ L.bs), w'.heap[k]? = w.heap[k]? := fun k hk => ht.block k (h.flt k (by simp [foot] at hk ⊢; exact Or.inr hk)) (hne k hk)
  exact
  { blk := hb
    mp := ownsKV_block h.mp (hk _ (by simp))
    sf := ownsKV_block h.sf (hk _ (by simp))
    st := ownsRow_keep h.st fun k hv => hk k (by simp [hv])
    len := h.len
    fs := fun i hi => (h.fs i hi).keep (hk _ (by
      have hi' : i < L.bs.length := by rw [h.len]; exact hi
      simp [List.getD, List.getElem?_eq_getElem hi']))
    nd := h.nd
    ok := ⟨h.ok.fol, h.ok.sur, h.ok.stp, h.ok.fap, h.ok.sap, h.ok.fln, h.ok.sln, h.ok.dat, ha, h.ok.rm, h.ok.nam, h.ok.snm⟩ }

theorem alive_at (b : Nat) (D : Dk) (L : Lay) (w : World) (h : DiskAt w b D L) :
    Calls Tryd.prog 77 #[.pointer (some ⟨b, 0, none⟩)] w fun e w' => e = .returned (.bool (!D.alive.dead)) ∧ DiskAt w' b D.alive L ∧ Touch (· = b) w w' := by
  refine (alive_any b _ _ _ _ _ _ w h.blk h.ok.arm).mono ?_
  rintro e w' ⟨rfl, hb, ht⟩
  exact ⟨rfl, h.cells _ _ (armNext_ok h.ok.arm) hb ht, ht⟩

theorem DiskAt.used_at {b : Nat} {D : Dk} {L : Lay} {w : World} (h : DiskAt w b D L) (hn : D.files.length ≤ 1048576) (w0 : World) (hb0 : Below w.heap.size w w0) :
    Calls Tryd.prog 39 #[.pointer (some ⟨b, 0, none⟩)] w0 fun e w' => e = .returned (.int .i64 D.used) ∧ Below w.heap.size w w' :=
  (used_any b D L w0 (h.below hb0) hn).mono fun _ _ ⟨he, hb⟩ => ⟨he, hb0.trans (hb.mono hb0.size)⟩

set_option maxRecDepth 100000 in
set_option maxHeartbeats 400000 in
theorem append_dead (b : Nat) (D : Dk) (L : Lay) (name data : ByteArray) (w : World) (h : DiskAt w b D L) (hd : D.alive.dead = true) :
    Calls Tryd.prog 31 #[.pointer (some ⟨b, 0, none⟩), .string name, .string data] w fun e w' => e = .returned (.int .i64 10) ∧ DiskAt w' b D.alive L ∧ Touch (· = b) w w' := by
  have hc := alive_at b D L w h
  rw [hd] at hc
  have Hc := Lib.hid hc
  clear hc h
  go_enter Tryd.func31, Tryd.ntmps31
  go_wp2_with (go_at_call 77; refine Hc.out.mono ?_; rintro e w' ⟨rfl, h1, ht⟩)
  go_ret
  exact ⟨rfl, h1, ht⟩

set_option maxRecDepth 100000 in
set_option maxHeartbeats 400000 in
theorem append_name (b : Nat) (D : Dk) (L : Lay) (name data : ByteArray) (w : World) (h : DiskAt w b D L) (hd : D.alive.dead = false) (hs : name.size ≤ 9223372036854775807) (hn : dkName name = false) :
    Calls Tryd.prog 31 #[.pointer (some ⟨b, 0, none⟩), .string name, .string data] w fun e w' => e = .returned (.int .i64 11) ∧ DiskAt w' b D.alive L ∧ Touch (· = b) w w' := by
  have hc := alive_at b D L w h
  rw [hd] at hc
  have Hc := Lib.hid hc
  have hn' := fun w => name_any name w hs
  rw [hn] at hn'
  have Hn := Lib.hid hn'
  clear hc h hn' hn
  go_enter Tryd.func31, Tryd.ntmps31
  go_wp2_with (first
    | (go_at_call 77; refine Hc.out.mono ?_; rintro e w' ⟨rfl, h1, ht⟩)
    | (go_at_call 78; refine (Hn.out _).mono ?_; rintro e w2 ⟨rfl, hb⟩))
  go_ret
  exact ⟨rfl, h1.below hb, ht.trans (Touch.of_below (fun _ => False) hb) (fun _ _ h => h.elim)⟩

/-- the disk behind an append that is taken -/
def Dk.put (D : Dk) (name data : ByteArray) : Dk :=
  match kvGet D.folder name with
  | some i => { D with files := D.files.set i { data := (D.flAt i).data ++ data, safe := (D.flAt i).safe } }
  | none => { D with files := D.files ++ [⟨data, 0⟩], folder := kvPut D.folder name D.files.length, steps := D.steps ++ [⟨1, name, name, D.files.length⟩] }
def Dk.append (D : Dk) (name data : ByteArray) : Dk × Int :=
  if D.alive.dead = true then (D.alive, 10) else if dkName name = false then (D.alive, 11) else
  if D.room - D.used < data.size then (D.alive, 9) else (D.alive.put name data, 0)

/-- What an append may turn: the disk's own blocks. -/
def DkPost (b : Nat) (L : Lay) (D' : Dk) (w w' : World) : Prop := ∃ L', DiskAt w' b D' L' ∧ Touch (· ∈ foot b L) w w' ∧ ∀ k ∈ foot b L', k ∈ foot b L ∨ w.heap.size ≤ k

theorem infoStep : (Tryd.prog.info? 128).map (fun i => (i.zero, i.size, i.bytes)) = some (some (.agg #[.int .i64 0, .string ⟨#[]⟩, .string ⟨#[]⟩, .pointer none]), 4, 48) := by kernel_rfl
theorem getD_mem {l : List Nat} {i : Nat} (h : i < l.length) : l.getD i 0 ∈ l := by simp [List.getD, List.getElem?_eq_getElem h]
theorem getD_inj {l : List Nat} {i j : Nat} (hn : l.Nodup) (hi : i < l.length) (hj : j < l.length) (h : l.getD i 0 = l.getD j 0) : i = j := by
  simp [List.getD, List.getElem?_eq_getElem hi, List.getElem?_eq_getElem hj] at h
  have hp := List.pairwise_iff_getElem.1 hn
  rcases Nat.lt_trichotomy i j with e | e | e
  · exact absurd h (hp i j hi hj e)
  · exact e
  · exact absurd h.symm (hp j i hj hi e)
theorem nd_bs {b : Nat} {L : Lay} (h : (foot b L).Nodup) : L.bs.Nodup := by
  simp only [foot, List.nodup_cons, List.nodup_append] at h; exact h.2.2.2.2.1
theorem nd_file {b : Nat} {L : Lay} (h : (foot b L).Nodup) {c : Nat} (hc : c ∈ L.bs) : b ≠ c ∧ L.bm ≠ c ∧ L.sm ≠ c ∧ L.v.ownBlock ≠ some c := by
  simp only [foot, List.nodup_cons, List.nodup_append, List.mem_cons, List.mem_append, Option.mem_toList, not_or] at h
  refine ⟨fun e => h.1.2.2.2 (e ▸ hc), fun e => h.2.1.2.2 (e ▸ hc), fun e => h.2.2.1.2 (e ▸ hc), fun e => h.2.2.2.2.2 c e c hc rfl⟩

/-- A file's cells are written anew. -/
theorem DiskAt.setFile {w w' : World} {b : Nat} {D : Dk} {L : Lay} (h : DiskAt w b D L) {i : Nat} (hi : i < D.files.length) (f : Fl) (hf : f.data.size ≤ 1073741824 ∧ f.safe ≤ f.data.size)
    (hblk : BlockIs w' (L.bs.getD i 0) (flCells f) 126) (ht : Touch (· = L.bs.getD i 0) w w') : DiskAt w' b { D with files := D.files.set i f } L := by
  have hi' : i < L.bs.length := by rw [h.len]; exact hi
  have hc := getD_mem hi'
  obtain ⟨n1, n2, n3, n4⟩ := nd_file h.nd hc
  exact
  { blk := h.blk.keep (ht.block _ h.blk.lt n1)
    mp := ownsKV_block h.mp (ht.block _ (ownsKV_lt h.mp) n2)
    sf := ownsKV_block h.sf (ht.block _ (ownsKV_lt h.sf) n3)
    st := ownsRow_keep h.st fun k hv => ht.block k (ownsRow_lt h.st hv).2 (fun e => n4 (by rw [hv, e]))
    len := by simp [h.len]
    fs := fun j hj => by
      simp only [List.length_set] at hj
      by_cases e : j = i
      · subst e
        have : ({ D with files := D.files.set j f } : Dk).flAt j = f := by simp [Dk.flAt, List.getD, List.getElem?_set_self hi]
        rw [this]; exact hblk
      · have hj' : j < L.bs.length := by rw [h.len]; exact hj
        have : ({ D with files := D.files.set i f } : Dk).flAt j = D.flAt j := by simp [Dk.flAt, List.getD, List.getElem?_set_ne (Ne.symm e)]
        rw [this]
        exact (h.fs j hj).keep (ht.block _ (h.fs j hj).lt (fun e' => e (getD_inj (nd_bs h.nd) hj' hi' e')))
    nd := h.nd
    ok := ⟨fun p hp => by simpa using h.ok.fol p hp, fun p hp => by simpa using h.ok.sur p hp, fun p hp => by simpa using h.ok.stp p hp, h.ok.fap, h.ok.sap, by simpa using h.ok.fln, by simpa using h.ok.sln,
      fun g hg => by
        rcases List.mem_or_eq_of_mem_set hg with hg | rfl
        · exact h.ok.dat g hg
        · exact hf, h.ok.arm, h.ok.rm, h.ok.nam, h.ok.snm⟩ }

theorem kvGet_found {w : World} {b : Nat} {D : Dk} {L : Lay} (h : DiskAt w b D L) {name : ByteArray} {i : Nat} (hg : kvGet D.folder name = some i) :
    i < D.files.length ∧ kvGet (kvMap (fileV L.bs) D.folder) name = some (fileV L.bs i) :=
  ⟨h.ok.fol _ (kvGet_mem hg), by rw [kvGet_map, hg]; rfl⟩
theorem kvGet_none {D : Dk} {L : Lay} {name : ByteArray} (hg : kvGet D.folder name = none) : kvGet (kvMap (fileV L.bs) D.folder) name = none := by rw [kvGet_map, hg]; rfl
theorem used_ge {D : Dk} {name : ByteArray} {i : Nat} (hg : kvGet D.folder name = some i) (ha : kvApart D.folder) : (D.flAt i).data.size ≤ D.used := by
  have := kvSum_del (fun i => (D.flAt i).data.size) ha (kvGet_mem hg)
  unfold Dk.used; omega

set_option maxRecDepth 100000 in
set_option maxHeartbeats 800000 in
theorem append_have (b : Nat) (D : Dk) (L : Lay) (name data : ByteArray) (w : World) (h : DiskAt w b D L) (hd : D.alive.dead = false) (hs : name.size ≤ 9223372036854775807) (hn : dkName name = true) (hds : data.size ≤ 9223372036854775807) (hf : D.files.length ≤ 1048576) (hh : (kvGet D.folder name).isSome = true ∨ D.room - D.used < data.size) :
    Calls Tryd.prog 31 #[.pointer (some ⟨b, 0, none⟩), .string name, .string data] w fun e w' => e = .returned (.int .i64 (D.append name data).2) ∧ DkPost b L (D.append name data).1 w w' := by
  have HH := Lib.hid hh
  clear hh
  have hc := alive_at b D L w h
  rw [hd] at hc
  have Hc := Lib.hid hc
  have hn' := fun w => name_any name w hs
  rw [hn] at hn'
  have Hn := Lib.hid hn'
  have hul := used_le h.ok hf
  have hrm := h.ok.rm
  have HD := Lib.hid hd
  have HN := Lib.hid hn
  clear hc h hn' hn hd
  go_enter Tryd.func31, Tryd.ntmps31
  go_upto_region 5 with (first
    | (go_at_call 77; refine Hc.out.mono ?_; rintro e w' ⟨rfl, h1, ht⟩)
    | (go_at_call 78; refine (Hn.out _).mono ?_; rintro e w2 ⟨rfl, hb⟩))
  have h2 := h1.below hb
  have Hu := Lib.hid (h2.used_at hf)
  have HR := Lib.hid (fun (w3 : World) (hb3 : Below w2.heap.size w2 w3) => (h2.below hb3).blk.cell 0)
  have c0 : w2.cell? ⟨b, 0, none⟩ = some (.int .i64 D.room) := h2.blk.cell 0
  have hau : (D.alive.used : Int) = D.used := rfl
  have Hau := Lib.hid hau
  clear hau
  go_cut [24] (fun s24 wc => s24 = .bool (decide (D.room - D.used < data.size)) ∧ Below w2.heap.size w2 wc)
  case first =>
    have hwr : IntKind.i64.wrap (D.room - ↑D.used) = D.room - ↑D.used := IntWalk.i64_in _ (by omega)
    go_region_with (go_at_call 39; refine (Hu.out _ ((Below.refl _ _).drew)).mono ?_; rw [Hau.out]; rintro e w3 ⟨rfl, hb3⟩; have c0' : w3.cell? ⟨b, 0, none⟩ = some (.int .i64 D.room) := HR.out _ hb3)
    all_goals (go_wp2_with fail; go_meet; exact ⟨rfl, hb3⟩)
  case rest =>
    obtain ⟨rfl, hb3⟩ := hcut
    have h3 := h2.below hb3
    by_cases hsp : D.room - D.used < data.size
    · have e : D.append name data = (D.alive, 9) := by
        unfold Dk.append; rw [if_neg (by rw [HD.out]; simp), if_neg (by rw [HN.out]; simp), if_pos hsp]
      have E := Lib.hid e
      clear e
      go_wp2
      go_ret
      rw [E.out]
      exact ⟨rfl, L, h3, (ht.trans (Touch.of_below (fun _ => False) (hb.trans (hb3.mono hb.size))) (fun _ _ h => h.elim)).mono (fun i _ hi => by simp [foot]; exact Or.inl hi), fun k hk => Or.inl hk⟩
    · have hsz : name.size ≤ maxLen := by unfold maxLen; omega
      have c1 : wc.cell? ⟨b, 1, none⟩ = some (.map (some L.bm)) := h3.blk.cell 1
      have hmp := h3.mp
      have H3 := Lib.hid h3
      have htt : Touch (· ∈ foot b L) w wc := (ht.trans (Touch.of_below (fun _ => False) (hb.trans (hb3.mono hb.size))) (fun _ _ h => h.elim)).mono (fun i _ hi => by simp [foot]; exact Or.inl hi)
      have HT := Lib.hid htt
      cases hg : kvGet D.folder name with
      | some i =>
        obtain ⟨hi, hget⟩ := kvGet_found h3 (show kvGet D.alive.folder name = some i from hg)
        have hds2 : (D.flAt i).data.size + data.size ≤ 1073741824 := by
          have h5 := used_ge (show kvGet D.alive.folder name = some i from hg) h3.ok.fap
          have h6 : (D.alive.flAt i).data.size = (D.flAt i).data.size := rfl
          have h7 : D.alive.used = D.used := rfl
          omega
        have e : D.append name data = ({ D.alive with files := D.alive.files.set i { data := (D.flAt i).data ++ data, safe := (D.flAt i).safe } }, 0) := by
          unfold Dk.append; rw [if_neg (by rw [HD.out]; simp), if_neg (by rw [HN.out]; simp), if_neg hsp]
          unfold Dk.put; rw [show kvGet D.alive.folder name = some i from hg]; rfl
        have E := Lib.hid e
        have hblk := h3.fs i hi
        have d0 : wc.cell? ⟨L.bs.getD i 0, 0, none⟩ = some (.string (D.flAt i).data) := hblk.cell 0
        have f0 : wc.frozen? ⟨L.bs.getD i 0, 0, none⟩ = false := hblk.free 0
        have hset := hblk.set 0 (.string ((D.flAt i).data ++ data))
        have HS := Lib.hid hset
        have hz0 := fun w => zero_ptr w
        clear e hg h3 htt hset hblk
        unfold fileV ptrV at hget
        have hL : ∀ x, x = L.bs.getD i 0 → x ∈ foot b L := fun x hx => by
          subst hx; simp only [foot, List.mem_cons, List.mem_append]; exact Or.inr (Or.inr (Or.inr (Or.inr (getD_mem (by rw [H3.out.len]; exact hi)))))
        have HL := Lib.hid hL
        have hfin : ∀ w', BlockIs w' (L.bs.getD i 0) (flCells { data := (D.flAt i).data ++ data, safe := (D.flAt i).safe }) 126 → Touch (· = L.bs.getD i 0) wc w' →
            DkPost b L { D.alive with files := D.alive.files.set i { data := (D.flAt i).data ++ data, safe := (D.flAt i).safe } } w w' := fun w' h1 h2 =>
          ⟨L, H3.out.setFile hi _ (by
              have h5 := (flAt_le H3.out.ok i).2
              have h6 : (D.alive.flAt i) = (D.flAt i) := rfl
              rw [h6] at h5
              simp only [ByteArray.size_append]; omega) h1 h2, HT.out.trans h2 (fun k _ hk => HL.out k hk), fun k hk => Or.inl hk⟩
        have HF := Lib.hid hfin
        clear hfin hL
        generalize L.bs.getD i 0 = c at d0 f0 hget HS HF
        go_wp2_with (first
          | (at_lookup; refine wpList_kvFound rfl _ _ 118 rfl Tryd.underlying9 Tryd.underlying118 (hz0 _) rfl hmp rfl hsz hget ?_)
          | go_in)
        go_ret
        rw [E.out]
        exact ⟨rfl, HF.out _ HS.out (Touch.setc _ _ _ _)⟩
      | none =>
        have h9 := HH.out
        rw [hg] at h9
        rcases h9 with h9 | h9
        · cases h9
        · exact absurd h9 hsp
end Go.Proofs.YtaoejgnfoecpfaaDoor
namespace Go.Proofs.YtaoejgnfoecpfaaDoor
set_option linter.unusedVariables false
set_option linter.unusedSimpArgs false
set_option linter.unusedSectionVars false
open Go.RowKit Go.Maps

theorem own_foot {b : Nat} {L : Lay} {k : Nat} (h : L.v.ownBlock = some k) : k ∈ foot b L := by simp [foot, h]
theorem fileV_old {bs more : List Nat} {i : Nat} (h : i < bs.length) : fileV (bs ++ more) i = fileV bs i := by
  unfold fileV; congr 1; simp [List.getD, List.getElem?_append_left h]
theorem fileV_new (bs : List Nat) (n : Nat) : fileV (bs ++ [n]) bs.length = ptrV n := by
  unfold fileV; congr 1; simp [List.getD]
theorem stepCells_old {bs more : List Nat} {s : Sp} (h : s.id < bs.length) : stepCells (bs ++ more) s = stepCells bs s := by unfold stepCells; rw [fileV_old h]
theorem steps_old {bs more : List Nat} {l : List Sp} (h : ∀ s ∈ l, s.id < bs.length) : l.flatMap (stepCells (bs ++ more)) = l.flatMap (stepCells bs) := by
  induction l with
  | nil => rfl
  | cons x r ih => rw [List.flatMap_cons, List.flatMap_cons, stepCells_old (h x (by simp)), ih (fun s hs => h s (by simp [hs]))]

/-- A file is new. -/
theorem DiskAt.push {w w' : World} {b : Nat} {D : Dk} {L : Lay} (h : DiskAt w b D L) {name data : ByteArray} {g cap n0 : Nat} (hname : name.size ≤ 80) (hdata : data.size ≤ 1073741824)
    (hn0 : w.heap.size ≤ n0) (hg5 : L.v.ownBlock = some g ∨ (w.heap.size ≤ g ∧ g ≠ n0))
    (hblk : BlockIs w' b (dkCells D.room L.bm L.sm (.slice (some ⟨g, 0, none⟩) (D.steps.length + 1) cap) D.arm D.dead) 121)
    (hmp : ownsKV w' Tryd.prog 9 L.bm (kvPut (kvMap (fileV L.bs) D.folder) name (ptrV n0)))
    (hst : w'.ownsRow 0 128 4 (.slice (some ⟨g, 0, none⟩) (D.steps.length + 1) cap) (D.steps.length + 1) (D.steps.flatMap (stepCells L.bs) ++ [.int .i64 1, .string name, .string name, ptrV n0]))
    (hfl : BlockIs w' n0 (flCells ⟨data, 0⟩) 126) (hrest : ∀ k ∈ L.sm :: L.bs, w'.heap[k]? = w.heap[k]?) :
    DiskAt w' b { D with files := D.files ++ [⟨data, 0⟩], folder := kvPut D.folder name D.files.length, steps := D.steps ++ [⟨1, name, name, D.files.length⟩] } ⟨L.bm, L.sm, .slice (some ⟨g, 0, none⟩) (D.steps.length + 1) cap, L.bs ++ [n0]⟩ := by
  have hlt := h.flt
  have hid : ∀ i, i < D.files.length → i < L.bs.length := fun i hi => by rw [h.len]; exact hi
  exact
  { blk := hblk.keep rfl
    mp := by
      rw [← fileV_new L.bs n0, ← kvMap_congr (f := fileV (L.bs ++ [n0])) (fun p hp => fileV_old (hid _ (h.ok.fol p hp))), kvPut_map, h.len] at hmp
      exact hmp
    sf := by
      have := ownsKV_block h.sf (hrest _ (by simp))
      rw [← kvMap_congr (f := fileV (L.bs ++ [n0])) (fun p hp => fileV_old (hid _ (h.ok.sur p hp)))] at this
      exact this
    st := by
      rw [← fileV_new L.bs n0, ← steps_old (more := [n0]) (fun s hs => hid _ (h.ok.stp s hs).1), h.len] at hst
      have e : (D.steps ++ ([⟨1, name, name, D.files.length⟩] : List Sp)).flatMap (stepCells (L.bs ++ [n0])) = D.steps.flatMap (stepCells (L.bs ++ [n0])) ++ [.int .i64 1, .string name, .string name, fileV (L.bs ++ [n0]) D.files.length] := by
        rw [List.flatMap_append]; rfl
      simp only [List.length_append, List.length_cons, List.length_nil]
      rw [e]; exact hst
    len := by simp [h.len]
    fs := fun i hi => by
      simp only [List.length_append, List.length_cons, List.length_nil] at hi
      by_cases e : i < D.files.length
      · have h1 : (L.bs ++ [n0]).getD i 0 = L.bs.getD i 0 := by simp [List.getD, List.getElem?_append_left (hid i e)]
        have h2 : ({ D with files := D.files ++ [⟨data, 0⟩], folder := kvPut D.folder name D.files.length, steps := D.steps ++ [⟨1, name, name, D.files.length⟩] } : Dk).flAt i = D.flAt i := by
          simp [Dk.flAt, List.getD, List.getElem?_append_left e]
        rw [h1, h2]
        exact (h.fs i e).keep (hrest _ (List.mem_cons_of_mem _ (getD_mem (hid i e))))
      · obtain rfl : i = D.files.length := by omega
        have h1 : (L.bs ++ [n0]).getD D.files.length 0 = n0 := by rw [← h.len]; simp [List.getD]
        have h2 : ({ D with files := D.files ++ [⟨data, 0⟩], folder := kvPut D.folder name D.files.length, steps := D.steps ++ [⟨1, name, name, D.files.length⟩] } : Dk).flAt D.files.length = ⟨data, 0⟩ := by
          simp [Dk.flAt, List.getD]
        rw [h1, h2]; exact hfl
    nd := by
      have hnd := h.nd
      have hb := hlt b (by simp [foot])
      have hbm := hlt L.bm (by simp [foot])
      have hsm := hlt L.sm (by simp [foot])
      have hbs : ∀ k ∈ L.bs, k < w.heap.size := fun k hk => hlt k (by simp [foot, hk])
      have hv : ∀ k, L.v.ownBlock = some k → k < w.heap.size := fun k hk => hlt k (by simp [foot, hk])
      simp only [foot, List.nodup_cons, List.nodup_append, List.mem_cons, List.mem_append, Option.mem_toList, not_or, List.not_mem_nil, not_false_eq_true, List.nodup_nil, and_true, true_and, or_false] at hnd ⊢
      have hgs : ∀ k, k ∈ Option.some g → k = g := fun k hk => by simpa using hk.symm
      have hgg : g ≠ n0 ∧ b ≠ g ∧ L.bm ≠ g ∧ L.sm ≠ g ∧ ∀ k ∈ L.bs, g ≠ k := by
        rcases hg5 with e | ⟨e1, e2⟩
        · have := hv g e
          exact ⟨by omega, fun x => hnd.1.2.2.1 (x ▸ e), fun x => hnd.2.1.2.1 (x ▸ e), fun x => hnd.2.2.1.1 (x ▸ e), fun k hk => hnd.2.2.2.2.2 g e k hk⟩
        · exact ⟨e2, by omega, by omega, by omega, fun k hk => by have := hbs k hk; omega⟩
      simp only [Value.ownBlock, Option.toList, List.nodup_cons, List.not_mem_nil, not_false_eq_true, List.nodup_nil, and_true, true_and, Option.some.injEq]
      refine ⟨⟨hnd.1.1, hnd.1.2.1, fun x => hgg.2.1 x.symm, hnd.1.2.2.2, by omega⟩, ⟨hnd.2.1.1, fun x => hgg.2.2.1 x.symm, hnd.2.1.2.2, by omega⟩, ⟨fun x => hgg.2.2.2.1 x.symm, hnd.2.2.1.2, by omega⟩, ⟨hnd.2.2.2.2.1, ?_⟩, ?_⟩
      · intro k hk j hj; subst hj; have := hbs k hk; omega
      · intro k hk j hj
        subst hk
        rcases hj with hj | rfl
        · exact hgg.2.2.2.2 j hj
        · exact hgg.1
    ok :=
      { fol := fun p hp => by
          simp only [List.length_append, List.length_cons, List.length_nil]
          rcases kvPut_mem hp with rfl | hp
          · simp
          · have := h.ok.fol p hp; omega
        sur := fun p hp => by simp only [List.length_append, List.length_cons, List.length_nil]; have := h.ok.sur p hp; omega
        stp := fun s hs => by
          simp only [List.length_append, List.length_cons, List.length_nil]
          rcases List.mem_append.1 hs with hs | hs
          · have := h.ok.stp s hs; exact ⟨by omega, this.2⟩
          · simp at hs; subst hs; exact ⟨by simp, hname, hname⟩
        fap := kvApart_put _ _ h.ok.fap
        sap := h.ok.sap
        fln := by have := kvPut_len D.folder name D.files.length; have h2 := h.ok.fln; simp; omega
        sln := by have := h.ok.sln; simp; omega
        dat := fun f hf => by
          rcases List.mem_append.1 hf with hf | hf
          · exact h.ok.dat f hf
          · simp at hf; subst hf; exact ⟨hdata, Nat.zero_le _⟩
        arm := h.ok.arm
        rm := h.ok.rm
        nam := fun p hp => by
          rcases kvPut_mem hp with rfl | hp
          · exact hname
          · exact h.ok.nam p hp
        snm := h.ok.snm } }

set_option maxRecDepth 100000 in
set_option maxHeartbeats 800000 in
theorem append_new (b : Nat) (D : Dk) (L : Lay) (name data : ByteArray) (w : World) (h : DiskAt w b D L) (hd : D.alive.dead = false) (hs : name.size ≤ 9223372036854775807) (hn : dkName name = true) (hds : data.size ≤ 9223372036854775807) (hf : D.files.length ≤ 1048576) (hst0 : D.steps.length ≤ 1048576) (hg0 : kvGet D.folder name = none) (hsp0 : ¬ D.room - D.used < data.size) :
    Calls Tryd.prog 31 #[.pointer (some ⟨b, 0, none⟩), .string name, .string data] w fun e w' => e = .returned (.int .i64 (D.append name data).2) ∧ DkPost b L (D.append name data).1 w w' := by
  have HG := Lib.hid hg0
  have HSP := Lib.hid hsp0
  have hsp1 : decide (D.room - D.used < data.size) = false := by simpa using hsp0
  clear hg0 hsp0
  have hc := alive_at b D L w h
  rw [hd] at hc
  have Hc := Lib.hid hc
  have hn' := fun w => name_any name w hs
  rw [hn] at hn'
  have Hn := Lib.hid hn'
  have hul := used_le h.ok hf
  have hrm := h.ok.rm
  have HD := Lib.hid hd
  have HN := Lib.hid hn
  clear hc h hn' hn hd
  go_enter Tryd.func31, Tryd.ntmps31
  go_upto_region 5 with (first
    | (go_at_call 77; refine Hc.out.mono ?_; rintro e w' ⟨rfl, h1, ht⟩)
    | (go_at_call 78; refine (Hn.out _).mono ?_; rintro e w2 ⟨rfl, hb⟩))
  have h2 := h1.below hb
  have Hu := Lib.hid (h2.used_at hf)
  have HR := Lib.hid (fun (w3 : World) (hb3 : Below w2.heap.size w2 w3) => (h2.below hb3).blk.cell 0)
  have c0 : w2.cell? ⟨b, 0, none⟩ = some (.int .i64 D.room) := h2.blk.cell 0
  have hau : (D.alive.used : Int) = D.used := rfl
  have Hau := Lib.hid hau
  clear hau
  go_cut [24] (fun s24 wc => s24 = .bool false ∧ Below w2.heap.size w2 wc)
  case first =>
    have hwr : IntKind.i64.wrap (D.room - ↑D.used) = D.room - ↑D.used := IntWalk.i64_in _ (by omega)
    go_region_with (go_at_call 39; refine (Hu.out _ ((Below.refl _ _).drew)).mono ?_; rw [Hau.out]; rintro e w3 ⟨rfl, hb3⟩; have c0' : w3.cell? ⟨b, 0, none⟩ = some (.int .i64 D.room) := HR.out _ hb3)
    all_goals (go_wp2_with fail; go_meet; exact ⟨rfl, hb3⟩)
  case rest =>
    obtain ⟨rfl, hb3⟩ := hcut
    have h3 := h2.below hb3
    have hsz : name.size ≤ maxLen := by unfold maxLen; omega
    have c1 : wc.cell? ⟨b, 1, none⟩ = some (.map (some L.bm)) := h3.blk.cell 1
    have hmp := h3.mp
    have H3 := Lib.hid h3
    have htt : Touch (· ∈ foot b L) w wc := (ht.trans (Touch.of_below (fun _ => False) (hb.trans (hb3.mono hb.size))) (fun _ _ h => h.elim)).mono (fun i _ hi => by simp [foot]; exact Or.inl hi)
    have HT := Lib.hid htt
    have hget := kvGet_none (L := L) (show kvGet D.alive.folder name = none from HG.out)
    have e : D.append name data = ({ D.alive with files := D.alive.files ++ [⟨data, 0⟩], folder := kvPut D.alive.folder name D.alive.files.length, steps := D.alive.steps ++ [⟨1, name, name, D.alive.files.length⟩] }, 0) := by
      unfold Dk.append; rw [if_neg (by rw [HD.out]; simp), if_neg (by rw [HN.out]; simp), if_neg (by have := HSP.out; omega)]
      unfold Dk.put; rw [show kvGet D.alive.folder name = none from HG.out]
    have E := Lib.hid e
    have hz0 := fun w => zero_ptr w
    have hlen : (kvMap (fileV L.bs) D.alive.folder).length ≤ 1048576 := by rw [kvMap_len]; have := h3.ok.fln; exact Nat.le_trans this hf
    have hst := h3.st
    have c3 : wc.cell? ⟨b, 3, none⟩ = some L.v := h3.blk.cell 3
    have hbne : wc.heap.size ≠ b := by have := h3.blk.lt; omega
    have hmp' : ∀ o, ownsKV (wc.alloc o) Tryd.prog 9 L.bm (kvMap (fileV L.bs) D.alive.folder) := fun o => ownsKV_block hmp (Below.heap_alloc _ _ _ (ownsKV_lt hmp))
    have HM := Lib.hid hmp'
    have hc1' : ∀ o, (wc.alloc o).cell? ⟨b, 1, none⟩ = some (.map (some L.bm)) := fun o => by rw [World.cell?_alloc_past _ _ _ h3.blk.lt]; exact c1
    have hlt := h3.flt
    have HLT := Lib.hid hlt
    have hnb : L.bm ≠ b ∧ ∀ k, L.v.ownBlock = some k → k ≠ b ∧ k ≠ L.bm := by
      have hnd := h3.nd
      simp only [foot, List.nodup_cons, List.nodup_append, List.mem_cons, List.mem_append, Option.mem_toList, not_or] at hnd
      exact ⟨fun e => hnd.1.1 e.symm, fun k hk => ⟨fun e => hnd.1.2.2.1 (e ▸ hk), fun e => hnd.2.1.2.1 (e ▸ hk)⟩⟩
    have HNB := Lib.hid hnb
    have HBL := Lib.hid h3.blk
    have HST := Lib.hid hst
    have HLE := Lib.hid hlen
    have hsl : D.alive.steps.length + 1 ≤ 1048577 := Nat.succ_le_succ hst0
    clear e h3 htt hmp' hlt hnb hst hlen
    go_wp2_with (first
      | (at_lookup; refine wpList_kvNone rfl _ _ 118 rfl Tryd.underlying9 Tryd.underlying118 (hz0 _) rfl hmp rfl hsz hget ?_)
      | (at_mapUpdate; refine wpList_kvStore rfl _ _ _ 118 rfl Tryd.underlying9 Tryd.underlying118 rfl (HM.out _) (Nat.lt_of_le_of_lt HLE.out (by decide)) rfl hsz rfl ?_; intro w4 hmp4 htu4;
          have hT4 := Touch.of_turned htu4; have hbl4 : BlockIs w4 b (dkCells D.alive.room L.bm L.sm L.v D.alive.arm D.alive.dead) 121 := HBL.out.keep (by rw [hT4.block _ (by simp; have := HBL.out.lt; omega) (fun e => HNB.out.1 e.symm)]; exact Below.heap_alloc _ _ _ HBL.out.lt);
          have c34 : w4.cell? ⟨b, 3, none⟩ = some L.v := hbl4.cell 3;
          have hst4 : w4.ownsRow 0 128 4 L.v D.alive.steps.length (D.alive.steps.flatMap (stepCells L.bs)) := ownsRow_keep HST.out (fun k hv => by rw [hT4.block _ (by have := (ownsRow_lt HST.out hv).2; simp; omega) (HNB.out.2 k hv).2]; exact Below.heap_alloc _ _ _ (ownsRow_lt HST.out hv).2))
      | (at_builtin; refine wpList_app1 rfl _ _ 119 rfl 0 128 Tryd.underlying119 infoStep rfl (by decide) _ _ _ rfl hst4 _ rfl rfl (by simp [Value.oneCell']) ?_ ?_ (Nat.zero_le _) ?_; omega; omega; intro g5 cap5 w5 hst5 hgr5 _ hloc5;
          have hb5 : BlockIs w5 b (dkCells D.alive.room L.bm L.sm L.v D.alive.arm D.alive.dead) 121 := hbl4.keep (hgr5.block _ hbl4.lt (fun e => (HNB.out.2 b e.symm).1 rfl));
          have c35 : w5.cell? ⟨b, 3, none⟩ = some L.v := hb5.cell 3;
          have f35 : w5.frozen? ⟨b, 3, none⟩ = false := hb5.free 3;
          have hfl5 : BlockIs w5 wc.heap.size #[.string ⟨#[]⟩, .int .i64 0] 126 := (BlockIs.new wc #[.string ⟨#[]⟩, .int .i64 0] 126).keep (by rw [hgr5.block _ (by have := hT4.size; simp at this; omega) (fun e => by have := (ownsRow_lt HST.out e.symm).2; omega), hT4.block _ (by simp) (fun e => by have := ownsKV_lt hmp; omega)]);
          have d05 : ∀ u, (w5.setCell ⟨b, 3, none⟩ u).cell? ⟨wc.heap.size, 0, none⟩ = some (.string ⟨#[]⟩) := fun u => ((Touch.setc w5 b 3 u).cell hfl5.lt hbne).trans (hfl5.cell 0);
          have e05 : ∀ u, (w5.setCell ⟨b, 3, none⟩ u).frozen? ⟨wc.heap.size, 0, none⟩ = false := fun u => ((Touch.setc w5 b 3 u).frozen hfl5.lt hbne).trans (hfl5.free 0))
      | go_in)
    go_ret
    have hde : (⟨#[]⟩ ++ data : ByteArray) = data := ByteArray.ext (by simp)
    rw [hde, E.out]
    clear hc1' c1 c0 d05 e05 hz0 hget E
    have hn4 : wc.heap.size + 1 ≤ w4.heap.size := by have := hT4.size; simpa using this
    have hn5 := hgr5.size
    have hlb := HBL.out.lt
    have hbm := ownsKV_lt hmp
    have hd2 : data.size ≤ 1073741824 := by have := HSP.out; omega
    have hnm : name.size ≤ 80 := by
      have h9 := HN.out; unfold dkName at h9; simp only [Bool.and_eq_true, decide_eq_true_eq] at h9; exact h9.2
    have hg5 : L.v.ownBlock = some g5 ∨ (wc.heap.size ≤ g5 ∧ g5 ≠ wc.heap.size) := hloc5.imp id fun e => by omega
    have hgb : g5 ≠ b ∧ g5 ≠ wc.heap.size := by
      rcases hg5 with e | e
      · exact ⟨(HNB.out.2 _ e).1, by have := (ownsRow_lt HST.out e).2; omega⟩
      · exact ⟨by omega, e.2⟩
    generalize hw6 : (w5.setCell ⟨b, 3, none⟩ (.slice (some ⟨g5, 0, none⟩) (D.alive.steps.length + 1) cap5)) = w6
    have t6 : Touch (· = b) w5 w6 := hw6 ▸ Touch.setc _ _ _ _
    generalize hw7 : (w6.setCell ⟨wc.heap.size, 0, none⟩ (.string data)) = w7
    have t7 : Touch (· = wc.heap.size) w6 w7 := hw7 ▸ Touch.setc _ _ _ _
    have hold : ∀ k, k < wc.heap.size → k ≠ b → k ≠ L.bm → L.v.ownBlock ≠ some k → w7.heap[k]? = wc.heap[k]? := by
      intro k h1 h2 h3 h4
      have hz6 := t6.size
      rw [t7.block k (by omega) (by omega), t6.block k (by omega) h2, hgr5.block k (by omega) (fun e => h4 e.symm), hT4.block k (by simp; omega) h3]
      exact Below.heap_alloc _ _ _ h1
    have hTT : Touch (· ∈ foot b L) wc w7 :=
      (((((Touch.alloc (· ∈ foot b L) wc _).trans hT4 (fun i _ hi => by simp [foot, hi])).trans (Touch.of_grown hgr5) (fun i _ hi => own_foot hi)).trans t6 (fun i _ hi => by simp [foot, hi])).trans t7 (fun i hi e => absurd hi (by omega)))
    refine ⟨rfl, _, H3.out.push (w' := w7) (g := g5) (cap := cap5) (n0 := wc.heap.size) hnm hd2 (Nat.le_refl _) hg5 ?_ ?_ ?_ ?_ ?_, HT.out.trans hTT (fun i _ h => h), ?_⟩
    · have h8 := (hb5.set 3 (.slice (some ⟨g5, 0, none⟩) (D.alive.steps.length + 1) cap5))
      rw [hw6] at h8
      exact h8.keep (t7.block b (by have := t6.size; omega) (fun e => hbne e.symm))
    · exact ownsKV_block hmp4 (by rw [t7.block L.bm (by have := t6.size; omega) (by omega), t6.block L.bm (by omega) HNB.out.1, hgr5.block L.bm (by omega) (fun e => (HNB.out.2 _ e.symm).2 rfl)])
    · refine ownsRow_keep hst5 fun k hk => ?_
      simp [Value.ownBlock] at hk
      subst hk
      have h9 := (ownsRow_lt hst5 (k := g5) rfl).2
      rw [t7.block g5 (by have := t6.size; omega) hgb.2, t6.block g5 h9 hgb.1]
    · have h8 := (hfl5.keep (t6.block _ hfl5.lt hbne)).set 0 (.string data)
      rw [hw7] at h8
      exact h8
    · intro k hk
      have hnd := H3.out.nd
      simp only [foot, List.nodup_cons, List.nodup_append, List.mem_cons, List.mem_append, Option.mem_toList, not_or] at hnd
      have hkl := HLT.out k (by simp only [foot, List.mem_cons, List.mem_append] at hk ⊢; rcases hk with hk | hk <;> simp [hk])
      rcases List.mem_cons.1 hk with rfl | hk
      · exact hold _ hkl (fun e => hnd.1.2.1 e.symm) (fun e => hnd.2.1.1 e.symm) (fun e => hnd.2.2.1.1 (by simpa using e))
      · exact hold _ hkl (fun e => hnd.1.2.2.2 (e ▸ hk)) (fun e => hnd.2.1.2.2 (e ▸ hk)) (fun e => hnd.2.2.2.2.2 k (by simpa using e) k hk rfl)
    · intro k hk
      have hw := (HT.out).size
      have hk : k = b ∨ k = L.bm ∨ k = L.sm ∨ some g5 = some k ∨ k ∈ L.bs ∨ k = wc.heap.size := by
        simpa only [foot, List.mem_cons, List.mem_append, Value.ownBlock, Option.mem_toList, List.not_mem_nil, or_false] using hk
      rcases hk with rfl | rfl | rfl | hk | hk | rfl
      · exact Or.inl (by simp [foot])
      · exact Or.inl (by simp [foot])
      · exact Or.inl (by simp [foot])
      · obtain rfl := Option.some.inj hk
        rcases hg5 with e | e
        · exact Or.inl (own_foot e)
        · exact Or.inr (by omega)
      · exact Or.inl (by simp [foot, hk])
      · exact Or.inr hw

theorem append_any (b : Nat) (D : Dk) (L : Lay) (name data : ByteArray) (w : World) (h : DiskAt w b D L) (hs : name.size ≤ 9223372036854775807) (hds : data.size ≤ 9223372036854775807) (hf : D.files.length ≤ 1048576) (hst0 : D.steps.length ≤ 1048576) :
    Calls Tryd.prog 31 #[.pointer (some ⟨b, 0, none⟩), .string name, .string data] w fun e w' => e = .returned (.int .i64 (D.append name data).2) ∧ DkPost b L (D.append name data).1 w w' := by
  have hsame : ∀ w', DiskAt w' b D.alive L → Touch (· = b) w w' → DkPost b L D.alive w w' := fun w' h1 h2 =>
    ⟨L, h1, h2.mono (fun i _ hi => by simp [foot, hi]), fun k hk => Or.inl hk⟩
  cases hd : D.alive.dead with
  | true =>
    have e : D.append name data = (D.alive, 10) := by unfold Dk.append; rw [if_pos hd]
    rw [e]
    exact (append_dead b D L name data w h hd).mono fun e w' ⟨h1, h2, h3⟩ => ⟨h1, hsame w' h2 h3⟩
  | false =>
    cases hn : dkName name with
    | false =>
      have e : D.append name data = (D.alive, 11) := by unfold Dk.append; rw [if_neg (by rw [hd]; simp), if_pos hn]
      rw [e]
      exact (append_name b D L name data w h hd hs hn).mono fun e w' ⟨h1, h2, h3⟩ => ⟨h1, hsame w' h2 h3⟩
    | true =>
      by_cases hsp : D.room - D.used < data.size
      · exact append_have b D L name data w h hd hs hn hds hf (Or.inr hsp)
      · cases hg : kvGet D.folder name with
        | some i => exact append_have b D L name data w h hd hs hn hds hf (Or.inl (by rw [hg]; rfl))
        | none => exact append_new b D L name data w h hd hs hn hds hf hst0 hg hsp
end Go.Proofs.YtaoejgnfoecpfaaDoor
namespace Go.Proofs.YtaoejgnfoecpfaaDoor
set_option linter.unusedVariables false
set_option linter.unusedSimpArgs false
set_option linter.unusedSectionVars false
open Go.RowKit Go.Maps

def Dk.sync (D : Dk) (name : ByteArray) : Dk × Int :=
  if D.alive.dead = true then (D.alive, 10) else
  match kvGet D.folder name with
  | some i => ({ D.alive with files := D.files.set i { data := (D.flAt i).data, safe := (D.flAt i).data.size } }, 0)
  | none => (D.alive, 7)
def Dk.read (D : Dk) (name : ByteArray) : ByteArray × Int :=
  if D.dead = true then (⟨#[]⟩, 10) else
  match kvGet D.folder name with
  | some i => ((D.flAt i).data, 0)
  | none => (⟨#[]⟩, 7)
theorem ba_lenD {s : ByteArray} (h : s.size ≤ 9223372036854775807) : s.size ≤ maxLen := by unfold maxLen; omega
theorem dkSame {b : Nat} {D : Dk} {L : Lay} {w w' : World} (h1 : DiskAt w' b D L) (h2 : Touch (· = b) w w') : DkPost b L D w w' :=
  ⟨L, h1, h2.mono (fun i _ hi => by simp [foot, hi]), fun k hk => Or.inl hk⟩
theorem bs_foot {b : Nat} {L : Lay} {i : Nat} (h : i < L.bs.length) : L.bs.getD i 0 ∈ foot b L := by
  simp only [foot, List.mem_cons, List.mem_append]; exact Or.inr (Or.inr (Or.inr (Or.inr (getD_mem h))))

set_option maxRecDepth 100000 in
set_option maxHeartbeats 400000 in
theorem read_any (b : Nat) (D : Dk) (L : Lay) (name : ByteArray) (w : World) (h : DiskAt w b D L) (hs : name.size ≤ 9223372036854775807) :
    Calls Tryd.prog 37 #[.pointer (some ⟨b, 0, none⟩), .string name] w fun e w' => e = .returned (.tuple #[.string (D.read name).1, .int .i64 (D.read name).2]) ∧ w = w' := by
  have c1 : w.cell? ⟨b, 1, none⟩ = some (.map (some L.bm)) := h.blk.cell 1
  have hsz := ba_lenD hs
  have hz0 := fun w => zero_ptr w
  have hmp := h.mp
  cases hd : D.dead with
  | true =>
    have c5 : w.cell? ⟨b, 5, none⟩ = some (.bool true) := by have := h.blk.cell 5; rw [hd] at this; exact this
    have e : D.read name = (⟨#[]⟩, 10) := by unfold Dk.read; rw [if_pos hd]
    rw [e]
    clear e hd h
    go_enter Tryd.func37, Tryd.ntmps37
    go_wp2
    go_ret2
    exact ⟨rfl, rfl⟩
  | false =>
    have c5 : w.cell? ⟨b, 5, none⟩ = some (.bool false) := by have := h.blk.cell 5; rw [hd] at this; exact this
    cases hg : kvGet D.folder name with
    | none =>
      have hget := kvGet_none (L := L) hg
      have e : D.read name = (⟨#[]⟩, 7) := by unfold Dk.read; rw [if_neg (by rw [hd]; simp), hg]
      rw [e]
      clear e hd h hg
      go_enter Tryd.func37, Tryd.ntmps37
      go_wp2_with (first
          | (at_lookup; refine wpList_kvNone rfl _ _ 118 rfl Tryd.underlying9 Tryd.underlying118 (hz0 _) rfl hmp rfl hsz hget ?_)
          | go_in)
      go_ret2
      exact ⟨rfl, rfl⟩
    | some i =>
      obtain ⟨hi, hget⟩ := kvGet_found h hg
      have e : D.read name = ((D.flAt i).data, 0) := by unfold Dk.read; rw [if_neg (by rw [hd]; simp), hg]
      rw [e]
      have d0 : w.cell? ⟨L.bs.getD i 0, 0, none⟩ = some (.string (D.flAt i).data) := (h.fs i hi).cell 0
      clear e hd h hg
      unfold fileV ptrV at hget
      generalize L.bs.getD i 0 = c at d0 hget
      go_enter Tryd.func37, Tryd.ntmps37
      go_wp2_with (first
          | (at_lookup; refine wpList_kvFound rfl _ _ 118 rfl Tryd.underlying9 Tryd.underlying118 (hz0 _) rfl hmp rfl hsz hget ?_)
          | go_in)
      go_ret2
      exact ⟨rfl, rfl⟩

set_option maxRecDepth 100000 in
set_option maxHeartbeats 400000 in
theorem sync_any (b : Nat) (D : Dk) (L : Lay) (name : ByteArray) (w : World) (h : DiskAt w b D L) (hs : name.size ≤ 9223372036854775807) :
    Calls Tryd.prog 33 #[.pointer (some ⟨b, 0, none⟩), .string name] w fun e w' => e = .returned (.int .i64 (D.sync name).2) ∧ DkPost b L (D.sync name).1 w w' := by
  have hsz := ba_lenD hs
  have hz0 := fun w => zero_ptr w
  have hc := alive_at b D L w h
  clear h
  cases hd : D.alive.dead with
  | true =>
    rw [hd] at hc
    have Hc := Lib.hid hc
    have e : D.sync name = (D.alive, 10) := by unfold Dk.sync; rw [if_pos hd]
    rw [e]
    clear e hd hc
    go_enter Tryd.func33, Tryd.ntmps33
    go_wp2_with (go_at_call 77; refine Hc.out.mono ?_; rintro e w' ⟨rfl, h1, ht⟩)
    go_ret
    exact ⟨rfl, dkSame h1 ht⟩
  | false =>
    rw [hd] at hc
    have Hc := Lib.hid hc
    cases hg : kvGet D.folder name with
    | none =>
      have hget := kvGet_none (L := L) hg
      have e : D.sync name = (D.alive, 7) := by unfold Dk.sync; rw [if_neg (by rw [hd]; simp), hg]
      rw [e]
      clear e hd hg hc
      go_enter Tryd.func33, Tryd.ntmps33
      go_wp2_with (first
        | (go_at_call 77; refine Hc.out.mono ?_; rintro e w' ⟨rfl, h1, ht⟩;
            have c1 : w'.cell? ⟨b, 1, none⟩ = some (.map (some L.bm)) := h1.blk.cell 1; have hmp := h1.mp)
        | (at_lookup; refine wpList_kvNone rfl _ _ 118 rfl Tryd.underlying9 Tryd.underlying118 (hz0 _) rfl hmp rfl hsz hget ?_)
        | go_in)
      go_ret
      exact ⟨rfl, dkSame h1 ht⟩
    | some i =>
      have e : D.sync name = ({ D.alive with files := D.alive.files.set i { data := (D.flAt i).data, safe := (D.flAt i).data.size } }, 0) := by unfold Dk.sync; rw [if_neg (by rw [hd]; simp), hg]; rfl
      rw [e]
      have HG := Lib.hid hg
      clear e hd hc hg
      go_enter Tryd.func33, Tryd.ntmps33
      go_wp2_with fail
      refine Hc.out.mono ?_
      rintro e w' ⟨rfl, h1, ht⟩
      have c1 : w'.cell? ⟨b, 1, none⟩ = some (.map (some L.bm)) := h1.blk.cell 1
      have hmp := h1.mp
      obtain ⟨hi, hget⟩ := kvGet_found h1 (show kvGet D.alive.folder name = some i from HG.out)
      have hblk := h1.fs i hi
      have d0 : w'.cell? ⟨L.bs.getD i 0, 0, none⟩ = some (.string (D.flAt i).data) := hblk.cell 0
      have d1 : w'.cell? ⟨L.bs.getD i 0, 1, none⟩ = some (.int .i64 (D.flAt i).safe) := hblk.cell 1
      have f1 : w'.frozen? ⟨L.bs.getD i 0, 1, none⟩ = false := hblk.free 1
      have hfin : DkPost b L { D.alive with files := D.alive.files.set i { data := (D.flAt i).data, safe := (D.flAt i).data.size } } w (w'.setCell ⟨L.bs.getD i 0, 1, none⟩ (.int .i64 (D.flAt i).data.size)) :=
        ⟨L, h1.setFile hi { data := (D.flAt i).data, safe := (D.flAt i).data.size } ⟨(flAt_le h1.ok i).1, Nat.le_refl _⟩ (hblk.set 1 (.int .i64 (D.flAt i).data.size)) (Touch.setc _ _ _ _),
          (ht.mono (fun k _ hk => by simp [foot, hk])).trans (Touch.setc _ _ _ _) (fun k _ hk => by subst hk; exact bs_foot (by rw [h1.len]; exact hi)), fun k hk => Or.inl hk⟩
      have HF := Lib.hid hfin
      clear hfin hblk
      unfold fileV ptrV at hget
      generalize L.bs.getD i 0 = c at d0 d1 f1 hget HF
      go_wp2_with (first
          | (at_lookup; refine wpList_kvFound rfl _ _ 118 rfl Tryd.underlying9 Tryd.underlying118 (hz0 _) rfl hmp rfl hsz hget ?_)
          | go_in)
      go_ret
      exact ⟨rfl, HF.out⟩

theorem run_map_nil_eq {P : Program} (w : World) (t k e : TypeId) (p : Option Nat) (h : P.underlying t = some (.map k e)) :
    (binOp .eql t (.map p) (.map none)).run P w = .ok (.bool p.isNone) w := run_eql_map_nil_sl w t k e p h

set_option maxRecDepth 100000 in
/-- maps.Clone of the disk's map. -/
theorem clone_any (m : Nat) (l : List (ByteArray × Value)) (w : World) (h : ownsKV w Tryd.prog 9 m l) :
    Calls Tryd.prog 79 #[.map (some m)] w fun e w' => e = .returned (.map (some w.heap.size)) ∧ ownsKV w' Tryd.prog 9 w.heap.size l ∧ Below w.heap.size w w' ∧ w'.heap.size = w.heap.size + 1 := by
  obtain ⟨es, clock, hb, F, hs, hD⟩ := h
  have hq := fun w => run_map_nil_eq (P := Tryd.prog) w 118 _ _ (some m) Tryd.underlying118
  have H := Lib.hid (And.intro F (And.intro hs hD))
  have HB := Lib.hid hb
  clear F hs hD hb
  go_enter Tryd.func79, Tryd.ntmps79
  go_wp2
  rw [run_callFunc_extern Tryd.func109 (by kernel_rfl) (by kernel_rfl) (by kernel_rfl) (e := Extern.MapsClone.clone) (by kernel_rfl), run_maps_clone_sl w 118 HB.out]
  simp only [Result.andThen]
  rw [Oper.upon_value]
  go_wp2
  rw [run_typeAssert_map_sl _ 118 20 _ _ _ Tryd.underlying118]
  simp only [Result.andThen]
  rw [Oper.upon_value]
  go_wp2
  go_ret
  exact ⟨rfl, ⟨es, clock, (MapKept.heap_alloc w _).1, H.out.1, H.out.2.1, H.out.2.2⟩, (Below.refl _ w).alloc (Nat.le_refl _) _, by simp⟩

def Dk.settle (D : Dk) : Dk × Int := if D.alive.dead = true then (D.alive, 10) else ({ D.alive with sure := D.folder, steps := [] }, 0)

set_option maxRecDepth 100000 in
set_option maxHeartbeats 400000 in
theorem settle_any (b : Nat) (D : Dk) (L : Lay) (w : World) (h : DiskAt w b D L) :
    Calls Tryd.prog 34 #[.pointer (some ⟨b, 0, none⟩)] w fun e w' => e = .returned (.int .i64 D.settle.2) ∧ DkPost b L D.settle.1 w w' := by
  have hc := alive_at b D L w h
  clear h
  cases hd : D.alive.dead with
  | true =>
    rw [hd] at hc
    have Hc := Lib.hid hc
    have e : D.settle = (D.alive, 10) := by unfold Dk.settle; rw [if_pos hd]
    rw [e]
    clear e hd hc
    go_enter Tryd.func34, Tryd.ntmps34
    go_wp2_with (go_at_call 77; refine Hc.out.mono ?_; rintro e w' ⟨rfl, h1, ht⟩)
    go_ret
    exact ⟨rfl, dkSame h1 ht⟩
  | false =>
    rw [hd] at hc
    have Hc := Lib.hid hc
    have e : D.settle = ({ D.alive with sure := D.alive.folder, steps := [] }, 0) := by unfold Dk.settle; rw [if_neg (by rw [hd]; simp)]; rfl
    rw [e]
    clear e hd hc
    go_enter Tryd.func34, Tryd.ntmps34
    go_wp2_with fail
    refine Hc.out.mono ?_
    rintro e w' ⟨rfl, h1, ht⟩
    have c1 : w'.cell? ⟨b, 1, none⟩ = some (.map (some L.bm)) := h1.blk.cell 1
    go_wp2_with fail
    refine (clone_any L.bm _ _ h1.mp).mono ?_
    rintro e w2 ⟨rfl, hsm, hb, hz⟩
    have h2 := h1.below hb
    have c2 : w2.cell? ⟨b, 2, none⟩ = some (.map (some L.sm)) := h2.blk.cell 2
    have f2 : w2.frozen? ⟨b, 2, none⟩ = false := h2.blk.free 2
    have c3 : w2.cell? ⟨b, 3, none⟩ = some L.v := h2.blk.cell 3
    have f3 : w2.frozen? ⟨b, 3, none⟩ = false := h2.blk.free 3
    have H1 := Lib.hid h1
    have H2 := Lib.hid h2
    have HZ := Lib.hid hz
    clear h1 h2 hz
    go_wp2
    go_ret
    refine ⟨rfl, ?_⟩
    generalize hw3 : (w2.setCell ⟨b, 2, none⟩ (.map (some w'.heap.size))).setCell ⟨b, 3, none⟩ (.slice none 0 0) = w3
    have t3 : Touch (· = b) w2 w3 := by rw [← hw3]; exact (Touch.setc _ _ _ _).trans (Touch.setc _ _ _ _) (fun _ _ h => h)
    have hbl : BlockIs w3 b (dkCells D.alive.room L.bm w'.heap.size (.slice none 0 0) D.alive.arm D.alive.dead) 121 := by
      have := (H2.out.blk.set 2 (.map (some w'.heap.size))).set 3 (.slice none 0 0)
      rw [hw3] at this; exact this
    have hne := nd_ne H2.out.nd
    have hlt := H1.out.flt
    have hk : ∀ k, k ∈ L.bm :: L.bs ∨ k = w'.heap.size → w3.heap[k]? = w2.heap[k]? := by
      intro k hk
      have hbl := hlt b (by simp [foot])
      have hzz := HZ.out
      rcases hk with hk | rfl
      · have hkf : k ∈ foot b L := by simp only [foot, List.mem_cons, List.mem_append] at hk ⊢; rcases hk with hk | hk <;> simp [hk]
        exact t3.block k (by have := hlt k hkf; omega) (hne k (by simp only [List.mem_cons, List.mem_append] at hk ⊢; rcases hk with hk | hk <;> simp [hk]))
      · exact t3.block _ (by omega) (by omega)
    refine ⟨⟨L.bm, w'.heap.size, .slice none 0 0, L.bs⟩, ?_, ?_, ?_⟩
    · exact
      { blk := hbl
        mp := ownsKV_block H2.out.mp (hk _ (by simp))
        sf := ownsKV_block hsm (hk _ (Or.inr rfl))
        st := ⟨rfl, Or.inl ⟨rfl, rfl⟩⟩
        len := H2.out.len
        fs := fun i hi => (H2.out.fs i hi).keep (hk _ (Or.inl (List.mem_cons_of_mem _ (getD_mem (by rw [H2.out.len]; exact hi)))))
        nd := by
          have hnd := H1.out.nd
          have hbl := hlt b (by simp [foot])
          have hbm := hlt L.bm (by simp [foot])
          have hbs : ∀ k ∈ L.bs, k < w'.heap.size := fun k hk => hlt k (by simp [foot, hk])
          simp only [foot, List.nodup_cons, List.nodup_append, List.mem_cons, List.mem_append, Option.mem_toList, not_or] at hnd
          simp only [foot, Value.ownBlock, Option.toList, List.nil_append, List.nodup_cons, List.mem_cons, not_or]
          exact ⟨⟨hnd.1.1, by omega, hnd.1.2.2.2⟩, ⟨by omega, hnd.2.1.2.2⟩, fun h => Nat.lt_irrefl _ (hbs _ h), hnd.2.2.2.2.1⟩
        ok := ⟨H2.out.ok.fol, H2.out.ok.fol, fun s hs => by simp at hs, H2.out.ok.fap, H2.out.ok.fap, H2.out.ok.fln, H2.out.ok.fln, H2.out.ok.dat, H2.out.ok.arm, H2.out.ok.rm, H2.out.ok.nam, H2.out.ok.nam⟩ }
    · exact ((ht.mono (fun k _ hk => by simp [foot, hk])).trans (Touch.of_below (fun _ => False) hb) (fun _ _ h => h.elim)).trans t3 (fun k _ hk => by simp [foot, hk])
    · intro k hk
      have hk : k = b ∨ k = L.bm ∨ k = w'.heap.size ∨ k ∈ L.bs := by
        simpa only [foot, List.mem_cons, List.mem_append, Value.ownBlock, Option.mem_toList, reduceCtorEq, false_or] using hk
      have hw := ht.size
      rcases hk with rfl | rfl | rfl | hk
      · exact Or.inl (by simp [foot])
      · exact Or.inl (by simp [foot])
      · exact Or.inr hw
      · exact Or.inl (by simp [foot, hk])

/-- a new disk -/
def dkNew (room : Int) : Dk := ⟨room, [], [], [], [], -1, false⟩

set_option maxRecDepth 100000 in
set_option maxHeartbeats 400000 in
theorem new_any (room : Int) (w : World) (h : 0 ≤ room ∧ room ≤ 1073741824) :
    Calls Tryd.prog 28 #[.int .i64 room] w fun e w' => ∃ b L, e = .returned (.tuple #[.pointer (some ⟨b, 0, none⟩), .int .i64 0]) ∧ DiskAt w' b (dkNew room) L ∧ Below w.heap.size w w' ∧ ∀ k ∈ foot b L, w.heap.size ≤ k := by
  have hmm := @run_makeMap Tryd.prog
  obtain ⟨ha, hb⟩ := h
  go_enter Tryd.func28, Tryd.ntmps28
  go_wp2
  go_ret2
  refine ⟨w.heap.size + 2, ⟨w.heap.size, w.heap.size + 1, .slice none 0 0, []⟩, rfl, ?_, ?_, ?_⟩
  · have hm := ownsKV_made w Tryd.prog 9
    have hm2 := ownsKV_made (w.alloc (.map #[] 0)) Tryd.prog 9
    simp only [World.size_alloc] at hm2
    exact
    { blk := by have := BlockIs.new ((w.alloc (.map #[] 0)).alloc (.map #[] 0)) (dkCells room w.heap.size (w.heap.size + 1) (.slice none 0 0) (-1) false) 121; simp only [World.size_alloc] at this; exact this
      mp := ownsKV_block hm (by rw [Below.heap_alloc _ _ _ (by simp; omega), Below.heap_alloc _ _ _ (by simp)])
      sf := ownsKV_block hm2 (by rw [Below.heap_alloc _ _ _ (by simp)])
      st := ⟨rfl, Or.inl ⟨rfl, rfl⟩⟩
      len := rfl
      fs := fun i hi => by simp [dkNew] at hi
      nd := by simp [foot, Value.ownBlock]
      ok := ⟨fun p hp => by simp [dkNew] at hp, fun p hp => by simp [dkNew] at hp, fun p hp => by simp [dkNew] at hp, List.Pairwise.nil, List.Pairwise.nil, Nat.le_refl _, Nat.le_refl _, fun p hp => by simp [dkNew] at hp, by simp [dkNew], ⟨ha, hb⟩, fun p hp => by simp [dkNew] at hp, fun p hp => by simp [dkNew] at hp⟩ }
  · exact (((Below.refl _ _).alloc (Nat.le_refl _) _).alloc (by simp) _).alloc (by simp; omega) _
  · intro k hk
    have hk : k = w.heap.size + 2 ∨ k = w.heap.size ∨ k = w.heap.size + 1 := by
      simpa [foot, Value.ownBlock] using hk
    omega
theorem new_bad (room : Int) (w : World) (h : room < 0 ∨ (0 ≤ room ∧ 1073741824 < room)) :
    Calls Tryd.prog 28 #[.int .i64 room] w fun e w' => e = .returned (.tuple #[.pointer none, .int .i64 1]) ∧ w = w' := by
  rcases h with h | ⟨h1, h2⟩
  · go_enter Tryd.func28, Tryd.ntmps28
    go_wp2
    go_ret2
    exact ⟨rfl, rfl⟩
  · go_enter Tryd.func28, Tryd.ntmps28
    go_wp2
    go_ret2
    exact ⟨rfl, rfl⟩
end Go.Proofs.YtaoejgnfoecpfaaDoor
namespace Go.Proofs.YtaoejgnfoecpfaaDoor
set_option linter.unusedVariables false
set_option linter.unusedSimpArgs false
set_option linter.unusedSectionVars false
open Go.RowKit Go.Maps

def Dk.remove (D : Dk) (name : ByteArray) : Dk × Int :=
  if D.alive.dead = true then (D.alive, 10) else
  match kvGet D.folder name with
  | some i => ({ D.alive with folder := kvDel D.folder name, steps := D.steps ++ [⟨3, name, name, i⟩] }, 0)
  | none => (D.alive, 7)
def Dk.rename (D : Dk) (src dst : ByteArray) : Dk × Int :=
  if D.alive.dead = true then (D.alive, 10) else
  match kvGet D.folder src with
  | some i => if dkName dst = false then (D.alive, 11) else ({ D.alive with folder := kvPut (kvDel D.folder src) dst i, steps := D.steps ++ [⟨2, src, dst, i⟩] }, 0)
  | none => (D.alive, 7)

/-- The folder is another one, and there is a step more. -/
theorem DiskAt.stepped {w w' : World} {b : Nat} {D : Dk} {L : Lay} (h : DiskAt w b D L) {g cap : Nat} (folder : List (ByteArray × Nat)) (s : Sp) (hs : s.id < D.files.length ∧ s.src.size ≤ 80 ∧ s.dst.size ≤ 80)
    (hf : (∀ p ∈ folder, p.2 < D.files.length) ∧ kvApart folder ∧ folder.length ≤ D.folder.length ∧ ∀ p ∈ folder, p.1.size ≤ 80) (hg5 : L.v.ownBlock = some g ∨ w.heap.size ≤ g)
    (hblk : BlockIs w' b (dkCells D.room L.bm L.sm (.slice (some ⟨g, 0, none⟩) (D.steps.length + 1) cap) D.arm D.dead) 121)
    (hmp : ownsKV w' Tryd.prog 9 L.bm (kvMap (fileV L.bs) folder))
    (hst : w'.ownsRow 0 128 4 (.slice (some ⟨g, 0, none⟩) (D.steps.length + 1) cap) (D.steps.length + 1) (D.steps.flatMap (stepCells L.bs) ++ stepCells L.bs s))
    (hrest : ∀ k ∈ L.sm :: L.bs, w'.heap[k]? = w.heap[k]?) :
    DiskAt w' b { D with folder := folder, steps := D.steps ++ [s] } ⟨L.bm, L.sm, .slice (some ⟨g, 0, none⟩) (D.steps.length + 1) cap, L.bs⟩ := by
  have hlt := h.flt
  have hid : ∀ i, i < D.files.length → i < L.bs.length := fun i hi => by rw [h.len]; exact hi
  exact
  { blk := hblk
    mp := hmp
    sf := ownsKV_block h.sf (hrest _ (by simp))
    st := by
      have e : (D.steps ++ [s]).flatMap (stepCells L.bs) = D.steps.flatMap (stepCells L.bs) ++ stepCells L.bs s := by
        rw [List.flatMap_append]; simp
      simp only [List.length_append, List.length_cons, List.length_nil]
      rw [e]; exact hst
    len := h.len
    fs := fun i hi => (h.fs i hi).keep (hrest _ (List.mem_cons_of_mem _ (getD_mem (hid i hi))))
    nd := by
      have hnd := h.nd
      have hb := hlt b (by simp [foot])
      have hbm := hlt L.bm (by simp [foot])
      have hsm := hlt L.sm (by simp [foot])
      have hbs : ∀ k ∈ L.bs, k < w.heap.size := fun k hk => hlt k (by simp [foot, hk])
      simp only [foot, List.nodup_cons, List.nodup_append, List.mem_cons, List.mem_append, Option.mem_toList, not_or] at hnd
      have hgg : g ≠ b ∧ g ≠ L.bm ∧ g ≠ L.sm ∧ ∀ k ∈ L.bs, g ≠ k := by
        rcases hg5 with e | e1
        · exact ⟨fun x => hnd.1.2.2.1 (x ▸ e), fun x => hnd.2.1.2.1 (x ▸ e), fun x => hnd.2.2.1.1 (x ▸ e), fun k hk => hnd.2.2.2.2.2 g e k hk⟩
        · exact ⟨by omega, by omega, by omega, fun k hk => by have := hbs k hk; omega⟩
      simp only [foot, Value.ownBlock, Option.toList, List.singleton_append, List.nodup_cons, List.mem_cons, not_or]
      exact ⟨⟨hnd.1.1, hnd.1.2.1, fun x => hgg.1 x.symm, hnd.1.2.2.2⟩, ⟨hnd.2.1.1, fun x => hgg.2.1 x.symm, hnd.2.1.2.2⟩, ⟨fun x => hgg.2.2.1 x.symm, hnd.2.2.1.2⟩, fun x => hgg.2.2.2 _ x rfl, hnd.2.2.2.2.1⟩
    ok :=
      { fol := hf.1
        sur := h.ok.sur
        stp := fun t ht => by
          rcases List.mem_append.1 ht with ht | ht
          · exact h.ok.stp t ht
          · simp at ht; subst ht; exact hs
        fap := hf.2.1
        sap := h.ok.sap
        fln := Nat.le_trans hf.2.2.1 h.ok.fln
        sln := h.ok.sln
        dat := h.ok.dat
        arm := h.ok.arm
        rm := h.ok.rm
        nam := hf.2.2.2
        snm := h.ok.snm } }

/-- What is left to say behind a step: worlds w4 (the map is written), w5 (the steps are appended to), w6 (the slice is stored). -/
theorem step_fin {b : Nat} {D : Dk} {L : Lay} {w wc w4 w5 : World} (H3 : DiskAt wc b D L) (HT : Touch (· ∈ foot b L) w wc) (hT4 : Touch (· = L.bm) wc w4) {g5 cap5 : Nat}
    (folder : List (ByteArray × Nat)) (s : Sp) (hs : s.id < D.files.length ∧ s.src.size ≤ 80 ∧ s.dst.size ≤ 80)
    (hf : (∀ p ∈ folder, p.2 < D.files.length) ∧ kvApart folder ∧ folder.length ≤ D.folder.length ∧ ∀ p ∈ folder, p.1.size ≤ 80)
    (hmp4 : ownsKV w4 Tryd.prog 9 L.bm (kvMap (fileV L.bs) folder))
    (hst5 : w5.ownsRow 0 128 4 (.slice (some ⟨g5, 0, none⟩) (D.steps.length + 1) cap5) (D.steps.length + 1) (D.steps.flatMap (stepCells L.bs) ++ stepCells L.bs s))
    (hgr5 : w4.grownBy w5 L.v.ownBlock) (hloc5 : L.v.ownBlock = some g5 ∨ g5 = w4.heap.size + 1) :
    DkPost b L { D with folder := folder, steps := D.steps ++ [s] } w (w5.setCell ⟨b, 3, none⟩ (.slice (some ⟨g5, 0, none⟩) (D.steps.length + 1) cap5)) := by
  have hlt := H3.flt
  have hnd := H3.nd
  simp only [foot, List.nodup_cons, List.nodup_append, List.mem_cons, List.mem_append, Option.mem_toList, not_or] at hnd
  have hbl := hlt b (by simp [foot])
  have hbm := hlt L.bm (by simp [foot])
  have hn4 := hT4.size
  have hn5 := hgr5.size
  have hg5 : L.v.ownBlock = some g5 ∨ wc.heap.size ≤ g5 := hloc5.imp id fun e => by omega
  have hgb : g5 ≠ b := by
    rcases hg5 with e | e
    · exact fun x => hnd.1.2.2.1 (x ▸ e)
    · omega
  have t6 := Touch.setc w5 b 3 (.slice (some ⟨g5, 0, none⟩) (D.steps.length + 1) cap5)
  have hb5 : BlockIs w5 b (dkCells D.room L.bm L.sm L.v D.arm D.dead) 121 := H3.blk.keep (by
    rw [hgr5.block b (by omega) (fun e => hnd.1.2.2.1 e.symm), hT4.block b hbl (fun e => hnd.1.1 e)])
  have hold : ∀ k, k < wc.heap.size → k ≠ b → k ≠ L.bm → L.v.ownBlock ≠ some k → (w5.setCell ⟨b, 3, none⟩ (.slice (some ⟨g5, 0, none⟩) (D.steps.length + 1) cap5)).heap[k]? = wc.heap[k]? := by
    intro k h1 h2 h3 h4
    rw [t6.block k (by omega) h2, hgr5.block k (by omega) (fun e => h4 e.symm), hT4.block k h1 h3]
  refine ⟨_, H3.stepped (g := g5) (cap := cap5) folder s hs hf hg5 ?_ ?_ ?_ ?_, ?_, ?_⟩
  · exact hb5.set 3 (.slice (some ⟨g5, 0, none⟩) (D.steps.length + 1) cap5)
  · exact ownsKV_block hmp4 (by rw [t6.block L.bm (by omega) (fun e => hnd.1.1 e.symm), hgr5.block L.bm (by omega) (fun e => hnd.2.1.2.1 e.symm)])
  · refine ownsRow_keep hst5 fun k hk => ?_
    obtain rfl : g5 = k := Option.some.inj hk
    exact t6.block g5 (ownsRow_lt hst5 (k := g5) rfl).2 hgb
  · intro k hk
    have hkl := hlt k (by simp only [foot, List.mem_cons, List.mem_append] at hk ⊢; rcases hk with hk | hk <;> simp [hk])
    rcases List.mem_cons.1 hk with rfl | hk
    · exact hold _ hkl (fun e => hnd.1.2.1 e.symm) (fun e => hnd.2.1.1 e.symm) (fun e => hnd.2.2.1.1 e)
    · exact hold _ hkl (fun e => hnd.1.2.2.2 (e ▸ hk)) (fun e => hnd.2.1.2.2 (e ▸ hk)) (fun e => hnd.2.2.2.2.2 k e k hk rfl)
  · exact ((HT.trans hT4 (fun i _ hi => by simp [foot, hi])).trans (Touch.of_grown hgr5) (fun i _ hi => own_foot hi)).trans t6 (fun i _ hi => by simp [foot, hi])
  · intro k hk
    have hw := HT.size
    have hk : k = b ∨ k = L.bm ∨ k = L.sm ∨ some g5 = some k ∨ k ∈ L.bs := by
      simpa only [foot, List.mem_cons, List.mem_append, Value.ownBlock, Option.mem_toList] using hk
    rcases hk with rfl | rfl | rfl | hk | hk
    · exact Or.inl (by simp [foot])
    · exact Or.inl (by simp [foot])
    · exact Or.inl (by simp [foot])
    · obtain rfl := Option.some.inj hk
      rcases hg5 with e | e
      · exact Or.inl (own_foot e)
      · exact Or.inr (by omega)
    · exact Or.inl (by simp [foot, hk])

theorem dk_facts {w : World} {b : Nat} {D : Dk} {L : Lay} (h : DiskAt w b D L) : L.bm ≠ b ∧ ∀ k, L.v.ownBlock = some k → k ≠ b ∧ k ≠ L.bm := by
  have hnd := h.nd
  simp only [foot, List.nodup_cons, List.nodup_append, List.mem_cons, List.mem_append, Option.mem_toList, not_or] at hnd
  exact ⟨fun e => hnd.1.1 e.symm, fun k hk => ⟨fun e => hnd.1.2.2.1 (e ▸ hk), fun e => hnd.2.1.2.1 (e ▸ hk)⟩⟩
/-- behind a write of the folder's map: the disk's cells and its steps -/
theorem turned_facts {w w4 : World} {b : Nat} {D : Dk} {L : Lay} (h : DiskAt w b D L) (ht : Touch (· = L.bm) w w4) :
    BlockIs w4 b (dkCells D.room L.bm L.sm L.v D.arm D.dead) 121 ∧ w4.ownsRow 0 128 4 L.v D.steps.length (D.steps.flatMap (stepCells L.bs)) :=
  ⟨h.blk.keep (ht.block _ h.blk.lt (fun e => (dk_facts h).1 e.symm)), ownsRow_keep h.st fun k hv => ht.block k (ownsRow_lt h.st hv).2 ((dk_facts h).2 k hv).2⟩

set_option maxRecDepth 100000 in
set_option maxHeartbeats 800000 in
theorem rename_any (b : Nat) (D : Dk) (L : Lay) (name dst : ByteArray) (w : World) (h : DiskAt w b D L) (hs : name.size ≤ 9223372036854775807) (hds : dst.size ≤ 9223372036854775807) (hst0 : D.steps.length ≤ 1048576) (hf0 : D.files.length ≤ 1048576) :
    Calls Tryd.prog 35 #[.pointer (some ⟨b, 0, none⟩), .string name, .string dst] w fun e w' => e = .returned (.int .i64 (D.rename name dst).2) ∧ DkPost b L (D.rename name dst).1 w w' := by
  have hsz := ba_lenD hs
  have hsz2 := ba_lenD hds
  have hz0 := fun w => zero_ptr w
  have hnm := fun i (hg : kvGet D.folder name = some i) => h.ok.nam _ (kvGet_mem hg)
  have hc := alive_at b D L w h
  have hfl := Nat.le_trans h.ok.fln hf0
  clear h
  cases hd : D.alive.dead with
  | true =>
    rw [hd] at hc
    have Hc := Lib.hid hc
    have e : D.rename name dst = (D.alive, 10) := by unfold Dk.rename; rw [if_pos hd]
    rw [e]
    clear e hd hc hnm
    go_enter Tryd.func35, Tryd.ntmps35
    go_wp2_with (go_at_call 77; refine Hc.out.mono ?_; rintro e w' ⟨rfl, h1, ht⟩)
    go_ret
    exact ⟨rfl, dkSame h1 ht⟩
  | false =>
    rw [hd] at hc
    have Hc := Lib.hid hc
    cases hg : kvGet D.folder name with
    | none =>
      have hget := kvGet_none (L := L) hg
      have e : D.rename name dst = (D.alive, 7) := by unfold Dk.rename; rw [if_neg (by rw [hd]; simp), hg]
      rw [e]
      clear e hd hg hc hnm
      go_enter Tryd.func35, Tryd.ntmps35
      go_wp2_with (first
        | (go_at_call 77; refine Hc.out.mono ?_; rintro e w' ⟨rfl, h1, ht⟩;
            have c1 : w'.cell? ⟨b, 1, none⟩ = some (.map (some L.bm)) := h1.blk.cell 1; have hmp := h1.mp)
        | (at_lookup; refine wpList_kvNone rfl _ _ 118 rfl Tryd.underlying9 Tryd.underlying118 (hz0 _) rfl hmp rfl hsz hget ?_)
        | go_in)
      go_ret
      exact ⟨rfl, dkSame h1 ht⟩
    | some i =>
      have HG := Lib.hid hg
      have hn' := fun w => name_any dst w hds
      cases hn : dkName dst with
      | false =>
        have e : D.rename name dst = (D.alive, 11) := by unfold Dk.rename; rw [if_neg (by rw [hd]; simp), hg]; exact if_pos hn
        rw [e]
        rw [hn] at hn'
        have Hn := Lib.hid hn'
        clear e hd hc hg hnm hn hn'
        go_enter Tryd.func35, Tryd.ntmps35
        go_wp2_with fail
        refine Hc.out.mono ?_
        rintro e w' ⟨rfl, h1, ht⟩
        have c1 : w'.cell? ⟨b, 1, none⟩ = some (.map (some L.bm)) := h1.blk.cell 1
        have hmp := h1.mp
        obtain ⟨hi, hget⟩ := kvGet_found h1 (show kvGet D.alive.folder name = some i from HG.out)
        have H1 := Lib.hid h1
        have HT := Lib.hid ht
        clear h1 ht
        unfold fileV ptrV at hget
        go_wp2_with (first
          | (at_lookup; refine wpList_kvFound rfl _ _ 118 rfl Tryd.underlying9 Tryd.underlying118 (hz0 _) rfl hmp rfl hsz hget ?_)
          | (go_at_call 78; refine (Hn.out _).mono ?_; rintro e w2 ⟨rfl, hb⟩)
          | go_in)
        go_ret
        exact ⟨rfl, dkSame (H1.out.below hb) (HT.out.trans (Touch.of_below (fun _ => False) hb) (fun _ _ h => h.elim))⟩
      | true =>
        have e : D.rename name dst = ({ D.alive with folder := kvPut (kvDel D.alive.folder name) dst i, steps := D.alive.steps ++ [⟨2, name, dst, i⟩] }, 0) := by
          unfold Dk.rename; rw [if_neg (by rw [hd]; simp), hg]; exact if_neg (by rw [hn]; simp)
        rw [e]
        rw [hn] at hn'
        have Hn := Lib.hid hn'
        have hn80 : name.size ≤ 80 := hnm i hg
        have hd80 : dst.size ≤ 80 := by
          unfold dkName at hn; simp only [Bool.and_eq_true, decide_eq_true_eq] at hn; exact hn.2
        have hsl : D.alive.steps.length + 1 ≤ 1048577 := Nat.succ_le_succ hst0
        clear e hd hc hg hnm hn hn'
        go_enter Tryd.func35, Tryd.ntmps35
        go_wp2_with fail
        refine Hc.out.mono ?_
        rintro e w' ⟨rfl, h1, ht⟩
        have c1 : w'.cell? ⟨b, 1, none⟩ = some (.map (some L.bm)) := h1.blk.cell 1
        have hmp := h1.mp
        obtain ⟨hi, hget⟩ := kvGet_found h1 (show kvGet D.alive.folder name = some i from HG.out)
        have H1 := Lib.hid h1
        have HT := Lib.hid ht
        clear h1 ht
        unfold fileV ptrV at hget
        go_wp2_with (first
          | (at_lookup; refine wpList_kvFound rfl _ _ 118 rfl Tryd.underlying9 Tryd.underlying118 (hz0 _) rfl hmp rfl hsz hget ?_)
          | fail)
        refine (Hn.out _).mono ?_
        rintro e w2 ⟨rfl, hb⟩
        have h2 := H1.out.below hb
        have c12 : w2.cell? ⟨b, 1, none⟩ = some (.map (some L.bm)) := h2.blk.cell 1
        have hmp2 := h2.mp
        have htt : Touch (· ∈ foot b L) w w2 := (HT.out.mono (fun k _ hk => by simp [foot, hk])).trans (Touch.of_below (fun _ => False) hb) (fun _ _ h => h.elim)
        have H2 := Lib.hid h2
        have HTT := Lib.hid htt
        have hdl : (kvDel (kvMap (fileV L.bs) D.alive.folder) name).length < 1099511627776 := by
          have h1 := kvDel_len (kvMap (fileV L.bs) D.alive.folder) name
          have h3 : D.alive.folder.length = D.folder.length := rfl
          rw [kvMap_len, h3] at h1; omega
        clear h2 htt
        go_wp2_with (first
          | (at_delete; refine wpList_kvDelete rfl _ _ 118 9 rfl Tryd.underlying9 Tryd.underlying118 rfl hmp2 rfl hsz ?_; intro w3 hmp3 htu3;
              have hT3 := Lib.hid (Touch.of_turned htu3); have hf3 := turned_facts H2.out hT3.out; have c13 : w3.cell? ⟨b, 1, none⟩ = some (.map (some L.bm)) := hf3.1.cell 1; clear hf3 htu3)
          | (at_mapUpdate; refine wpList_kvStore rfl _ _ _ 118 rfl Tryd.underlying9 Tryd.underlying118 rfl hmp3 hdl rfl hsz2 rfl ?_; intro w4 hmp4 htu4;
              have hT4 := Lib.hid (hT3.out.trans (Touch.of_turned htu4) (fun _ _ h => h)); have hf4 := turned_facts H2.out hT4.out; have c34 : w4.cell? ⟨b, 3, none⟩ = some L.v := hf4.1.cell 3; have hb4 := Lib.hid hf4.1; have hst4 := hf4.2; clear hf4 htu4)
          | (at_builtin; refine wpList_app1 rfl _ _ 119 rfl 0 128 Tryd.underlying119 infoStep rfl (by decide) _ _ _ rfl hst4 _ rfl rfl (by simp [Value.oneCell']) ?_ ?_ (Nat.zero_le _) ?_; omega; omega; intro g5 cap5 w5 hst5 hgr5 _ hloc5;
              have hb5 : BlockIs w5 b (dkCells D.alive.room L.bm L.sm L.v D.alive.arm D.alive.dead) 121 := hb4.out.keep (hgr5.block _ hb4.out.lt (fun e => ((dk_facts H2.out).2 b e.symm).1 rfl));
              have c35 : w5.cell? ⟨b, 3, none⟩ = some L.v := hb5.cell 3;
              have f35 : w5.frozen? ⟨b, 3, none⟩ = false := hb5.free 3)
          | go_in)
        go_ret
        have hmp5 : ownsKV w4 Tryd.prog 9 L.bm (kvMap (fileV L.bs) (kvPut (kvDel D.alive.folder name) dst i)) := by
          rw [← kvPut_map, ← kvDel_map]; exact hmp4
        exact ⟨rfl, step_fin H2.out HTT.out hT4.out (kvPut (kvDel D.alive.folder name) dst i) ⟨2, name, dst, i⟩ ⟨hi, hn80, hd80⟩
          ⟨fun p hp => by
              rcases kvPut_mem hp with rfl | hp
              · exact hi
              · exact H2.out.ok.fol p (kvDel_mem hp), kvApart_put _ _ (kvApart_del _ H2.out.ok.fap), by
              have h1 := kvPut_len (kvDel D.alive.folder name) dst i
              have h3 := kvDel_len_lt (show kvGet D.alive.folder name = some i from HG.out)
              omega, fun p hp => by
              rcases kvPut_mem hp with rfl | hp
              · exact hd80
              · exact H2.out.ok.nam p (kvDel_mem hp)⟩ hmp5 hst5 hgr5 hloc5⟩
end Go.Proofs.YtaoejgnfoecpfaaDoor
namespace Go.Proofs.YtaoejgnfoecpfaaDoor
set_option linter.unusedVariables false
set_option linter.unusedSimpArgs false
set_option linter.unusedSectionVars false
open Go.RowKit Go.Maps

theorem tmod_between (x n : Int) (hn : 0 < n) : -n < x.tmod n ∧ x.tmod n < n := by
  refine ⟨?_, Int.tmod_lt_of_pos x hn⟩
  by_cases hx : 0 ≤ x
  · have := Int.tmod_nonneg n hx; omega
  · have h4 := Int.tmod_lt_of_pos (-x) hn
    rw [Int.neg_tmod] at h4; omega
theorem tmod_emod (x n : Int) (hn : 0 < n) : x % n = if x.tmod n < 0 then x.tmod n + n else x.tmod n := by
  obtain ⟨h3, h2⟩ := tmod_between x n hn
  have h1 : x = x.tmod n + n * x.tdiv n := (Int.tmod_add_mul_tdiv x n).symm
  have h4 : x % n = (x.tmod n) % n := by
    have h5 : (x.tmod n + n * x.tdiv n) % n = (x.tmod n) % n := Int.add_mul_emod_self_left _ _ _
    rw [← h1] at h5; exact h5
  rw [h4]
  split
  · rw [← Int.add_emod_right, Int.emod_eq_of_lt (by omega) (by omega)]
  · rw [Int.emod_eq_of_lt (by omega) (by omega)]

set_option maxHeartbeats 400000 in
set_option maxRecDepth 100000 in
theorem place_any (x n : Int) (w : World) (hx : -9223372036854775808 ≤ x ∧ x ≤ 9223372036854775807) (hn : 0 < n ∧ n ≤ 4611686018427387904) :
    Calls Tryd.prog 81 #[.int .i64 x, .int .i64 n] w fun e w' => e = .returned (.int .i64 (x % n)) ∧ w = w' := by
  have HE := Lib.hid (tmod_emod x n hn.1)
  obtain ⟨h3, h2⟩ := tmod_between x n hn.1
  obtain ⟨hx1, hx2⟩ := hx
  by_cases h : x.tmod n < 0
  · have HE := Lib.hid (show x % n = x.tmod n + n by rw [HE.out, if_pos h])
    go_enter Tryd.func81, Tryd.ntmps81
    go_wp2
    go_ret
    exact ⟨ret_int HE.out.symm, rfl⟩
  · have HE := Lib.hid (show x % n = x.tmod n by rw [HE.out, if_neg h])
    go_enter Tryd.func81, Tryd.ntmps81
    go_wp2
    go_ret
    exact ⟨ret_int HE.out.symm, rfl⟩

/-- what keeps says of a place -/
def sayI (ks : List Int) (i : Nat) : Int := if ks = [] then 0 else ks.getD (i % ks.length) 0
/-- a row of numbers, to be read -/
def RowInt (w : World) (v : Value) (l : List Int) : Prop :=
  ((∃ a c, v = .slice a 0 c) ∧ l = []) ∨ ∃ g o cap, v = .slice (some ⟨g, o, none⟩) l.length cap ∧ ∀ j (h : j < l.length), w.cell? ⟨g, o + j, none⟩ = some (.int .i64 l[j])

set_option maxHeartbeats 400000 in
set_option maxRecDepth 100000 in
theorem say_any (ks : List Int) (i bx : Nat) (v : Value) (w : World) (hv : RowInt w v ks) (hb : w.cell? ⟨bx, 0, none⟩ = some v) (_hi : i ≤ 4611686018427387904) (hl : ks.length ≤ 9223372036854775807) :
    Calls Tryd.prog 80 #[.int .i64 i, .pointer (some ⟨bx, 0, none⟩)] w fun e w' => e = .returned (.int .i64 (sayI ks i)) ∧ ∃ n, w' = w.drewN n := by
  rcases hv with ⟨⟨a, c, rfl⟩, rfl⟩ | ⟨g, o, cap, rfl, hc⟩
  · go_enter Tryd.func80, Tryd.ntmps80
    go_wp2
    go_ret
    exact ⟨rfl, 0, rfl⟩
  · by_cases h0 : ks.length = 0
    · have hks : ks = [] := List.length_eq_zero_iff.1 h0
      subst hks
      go_enter Tryd.func80, Tryd.ntmps80
      go_wp2
      go_ret
      exact ⟨rfl, 0, rfl⟩
    · have hm : i % ks.length < ks.length := Nat.mod_lt _ (by omega)
      have c1 := hc (i % ks.length) hm
      have HS : Hid (sayI ks i = ks[i % ks.length]) := by
        unfold Hid sayI
        rw [if_neg (by intro h; exact h0 (by rw [h]; rfl)), List.getD, List.getElem?_eq_getElem hm]; rfl
      have ht : ((i : Int).tmod (ks.length : Int)) = ((i % ks.length : Nat) : Int) := rfl
      clear hc
      generalize ks[i % ks.length] = x at c1 HS
      go_enter Tryd.func80, Tryd.ntmps80
      go_wp2
      go_quiet (fail)
      go_wp2
      go_ret
      exact ⟨ret_int HS.out.symm, nq, rfl⟩
end Go.Proofs.YtaoejgnfoecpfaaDoor
namespace Go.Proofs.YtaoejgnfoecpfaaDoor
set_option linter.unusedVariables false
set_option linter.unusedSimpArgs false
set_option linter.unusedSectionVars false
open Go.Shelf
def Tryd.keys83_ren : Go.Shelf.Ren := ⟨fun | 7 => 83 | 10 => 112 | n => n, fun | 23 => 118 | 26 => 9 | 3 => 123 | 28 => 100 | 0 => 0 | 27 => 99 | 33 => 23 | 4 => 4 | n => n, fun | n => n⟩
theorem Tryd.keys83 : Go.Proofs.SlLaysZ.n7 Tryd.prog Tryd.keys83_ren := {
  mixed := by kernel_rfl
  f7 := ⟨Tryd.f83.name, by decide, Tryd.func83.trans (congrArg some (by kernel_rfl))⟩
  f10 := ⟨Tryd.f112.name, by decide, Tryd.func112.trans (congrArg some (by kernel_rfl))⟩
  t0 := Tryd.underlying0
  a0 := Tryd.isAgg0
  z0 := Tryd.sizeOf0
  v0 := Tryd.zeroValue0
  t4 := Tryd.underlying4
  a4 := Tryd.isAgg4
  z4 := Tryd.sizeOf4
  v4 := Tryd.zeroValue4
  t23 := Tryd.underlying118
  a23 := Tryd.isAgg118
  z23 := Tryd.sizeOf118
  v23 := Tryd.zeroValue118
  t26 := Tryd.underlying9
  a26 := Tryd.isAgg9
  z26 := Tryd.sizeOf9
  v26 := Tryd.zeroValue9
  t27 := Tryd.underlying99
  a27 := Tryd.isAgg99
  z27 := Tryd.sizeOf99
  v27 := Tryd.zeroValue99
  t28 := Tryd.underlying100
  a28 := Tryd.isAgg100
  z28 := Tryd.sizeOf100
  v28 := Tryd.zeroValue100
  t33 := Tryd.underlying23
  a33 := Tryd.isAgg23
  z33 := Tryd.sizeOf23
  v33 := Tryd.zeroValue23 }
def Tryd.sorted82_ren : Go.Shelf.Ren := ⟨fun | 6 => 82 | 8 => 110 | 9 => 111 | 11 => 123 | 13 => 125 | 12 => 124 | 23 => 144 | 24 => 145 | 14 => 135 | 15 => 136 | 16 => 137 | 17 => 138 | 18 => 139 | 19 => 140 | 20 => 141 | 21 => 142 | 22 => 143 | 25 => 153 | 26 => 154 | 27 => 155 | 28 => 156 | 29 => 157 | 30 => 147 | 31 => 159 | n => n, fun | 26 => 9 | 28 => 100 | 24 => 50 | 0 => 0 | 3 => 3 | 37 => 162 | 48 => 153 | 50 => 147 | 4 => 4 | 40 => 178 | 39 => 177 | 45 => 183 | 5 => 5 | 9 => 9 | 51 => 193 | 55 => 197 | 57 => 199 | 58 => 104 | 33 => 23 | n => n, fun | n => n⟩
theorem Tryd.sorted82 : Go.Proofs.SlLaysZ.n6 Tryd.prog Tryd.sorted82_ren := {
  mixed := by kernel_rfl
  f6 := ⟨Tryd.f82.name, by decide, Tryd.func82.trans (congrArg some (by kernel_rfl))⟩
  f8 := ⟨Tryd.f110.name, by decide, Tryd.func110.trans (congrArg some (by kernel_rfl))⟩
  f11 := ⟨Tryd.f123.name, by decide, Tryd.func123.trans (congrArg some (by kernel_rfl))⟩
  t0 := Tryd.underlying0
  a0 := Tryd.isAgg0
  z0 := Tryd.sizeOf0
  v0 := Tryd.zeroValue0
  t24 := Tryd.underlying50
  a24 := Tryd.isAgg50
  z24 := Tryd.sizeOf50
  v24 := Tryd.zeroValue50
  t26 := Tryd.underlying9
  a26 := Tryd.isAgg9
  z26 := Tryd.sizeOf9
  v26 := Tryd.zeroValue9
  t28 := Tryd.underlying100
  a28 := Tryd.isAgg100
  z28 := Tryd.sizeOf100
  v28 := Tryd.zeroValue100
  i26 := by kernel_rfl }
def Tryd.sort111_ren : Go.Shelf.Ren := ⟨fun | 6 => 111 | 8 => 125 | 9 => 124 | 19 => 144 | 20 => 145 | 21 => 135 | 22 => 136 | 23 => 137 | 24 => 138 | 25 => 139 | 26 => 140 | 27 => 141 | 28 => 142 | 29 => 143 | 36 => 153 | 31 => 154 | 32 => 155 | 37 => 156 | 38 => 157 | 39 => 147 | 41 => 159 | n => n, fun | 27 => 50 | 29 => 9 | 3 => 3 | 32 => 162 | 26 => 50 | 0 => 0 | 44 => 153 | 46 => 147 | 4 => 4 | 36 => 178 | 35 => 177 | 41 => 183 | 5 => 5 | 9 => 9 | 53 => 193 | 57 => 197 | 63 => 199 | 64 => 104 | n => n, fun | n => n⟩
theorem Tryd.sort111 : Go.Proofs.SlLaysM.n6 Tryd.prog Tryd.sort111_ren := {
  mixed := by kernel_rfl
  f6 := ⟨Tryd.f111.name, by decide, Tryd.func111.trans (congrArg some (by kernel_rfl))⟩
  f8 := Tryd.func125.trans (congrArg some (by kernel_rfl))
  f9 := ⟨Tryd.f124.name, by decide, Tryd.func124.trans (congrArg some (by kernel_rfl))⟩
  f19 := Tryd.func144.trans (congrArg some (by kernel_rfl))
  f20 := Tryd.func145.trans (congrArg some (by kernel_rfl))
  f21 := ⟨Tryd.f135.name, by decide, Tryd.func135.trans (congrArg some (by kernel_rfl))⟩
  f22 := ⟨Tryd.f136.name, by decide, Tryd.func136.trans (congrArg some (by kernel_rfl))⟩
  f23 := ⟨Tryd.f137.name, by decide, Tryd.func137.trans (congrArg some (by kernel_rfl))⟩
  f24 := ⟨Tryd.f138.name, by decide, Tryd.func138.trans (congrArg some (by kernel_rfl))⟩
  f25 := ⟨Tryd.f139.name, by decide, Tryd.func139.trans (congrArg some (by kernel_rfl))⟩
  f26 := ⟨Tryd.f140.name, by decide, Tryd.func140.trans (congrArg some (by kernel_rfl))⟩
  f27 := ⟨Tryd.f141.name, by decide, Tryd.func141.trans (congrArg some (by kernel_rfl))⟩
  f28 := ⟨Tryd.f142.name, by decide, Tryd.func142.trans (congrArg some (by kernel_rfl))⟩
  f29 := ⟨Tryd.f143.name, by decide, Tryd.func143.trans (congrArg some (by kernel_rfl))⟩
  f31 := Tryd.func154.trans (congrArg some (by kernel_rfl))
  f32 := Tryd.func155.trans (congrArg some (by kernel_rfl))
  f36 := ⟨Tryd.f153.name, by decide, Tryd.func153.trans (congrArg some (by kernel_rfl))⟩
  f37 := ⟨Tryd.f156.name, by decide, Tryd.func156.trans (congrArg some (by kernel_rfl))⟩
  f38 := ⟨Tryd.f157.name, by decide, Tryd.func157.trans (congrArg some (by kernel_rfl))⟩
  f39 := ⟨Tryd.f147.name, by decide, Tryd.func147.trans (congrArg some (by kernel_rfl))⟩
  f41 := ⟨Tryd.f159.name, by decide, Tryd.func159.trans (congrArg some (by kernel_rfl))⟩
  t0 := Tryd.underlying0
  a0 := Tryd.isAgg0
  z0 := Tryd.sizeOf0
  v0 := Tryd.zeroValue0
  t3 := Tryd.underlying3
  a3 := Tryd.isAgg3
  z3 := Tryd.sizeOf3
  v3 := Tryd.zeroValue3
  t4 := Tryd.underlying4
  a4 := Tryd.isAgg4
  z4 := Tryd.sizeOf4
  v4 := Tryd.zeroValue4
  t5 := Tryd.underlying5
  a5 := Tryd.isAgg5
  z5 := Tryd.sizeOf5
  v5 := Tryd.zeroValue5
  t9 := Tryd.underlying9
  a9 := Tryd.isAgg9
  z9 := Tryd.sizeOf9
  v9 := Tryd.zeroValue9
  t26 := Tryd.underlying50
  a26 := Tryd.isAgg50
  z26 := Tryd.sizeOf50
  v26 := Tryd.zeroValue50
  t27 := Tryd.underlying50
  a27 := Tryd.isAgg50
  z27 := Tryd.sizeOf50
  v27 := Tryd.zeroValue50
  t29 := Tryd.underlying9
  a29 := Tryd.isAgg9
  z29 := Tryd.sizeOf9
  v29 := Tryd.zeroValue9
  t32 := Tryd.underlying162
  a32 := Tryd.isAgg162
  z32 := Tryd.sizeOf162
  v32 := Tryd.zeroValue162
  t35 := Tryd.underlying177
  a35 := Tryd.isAgg177
  z35 := Tryd.sizeOf177
  v35 := Tryd.zeroValue177
  t36 := Tryd.underlying178
  a36 := Tryd.isAgg178
  z36 := Tryd.sizeOf178
  v36 := Tryd.zeroValue178
  t41 := Tryd.underlying183
  a41 := Tryd.isAgg183
  z41 := Tryd.sizeOf183
  v41 := Tryd.zeroValue183
  t44 := Tryd.underlying153
  a44 := Tryd.isAgg153
  z44 := Tryd.sizeOf153
  v44 := Tryd.zeroValue153
  t46 := Tryd.underlying147
  a46 := Tryd.isAgg147
  z46 := Tryd.sizeOf147
  v46 := Tryd.zeroValue147
  t53 := Tryd.underlying193
  a53 := Tryd.isAgg193
  z53 := Tryd.sizeOf193
  v53 := Tryd.zeroValue193
  t57 := Tryd.underlying197
  a57 := Tryd.isAgg197
  z57 := Tryd.sizeOf197
  v57 := Tryd.zeroValue197
  t63 := Tryd.underlying199
  a63 := Tryd.isAgg199
  z63 := Tryd.sizeOf199
  v63 := Tryd.zeroValue199
  t64 := Tryd.underlying104
  a64 := Tryd.isAgg104
  z64 := Tryd.sizeOf104
  v64 := Tryd.zeroValue104 }
open Go.RowKit Go.Maps Go.Sort Go.Shelf


/-- slices.Sort's two contracts at this dump, at the fence that asks nothing. -/
theorem Tryd.sorts82 (m : Nat) : AnyZ.SortsIn Tryd.prog Tryd.sorted82_ren Fence.wide m :=
  ⟨fun blk off cap ss W hH hblk hsz => callsIn_wide.2 (AnyM.slices_Sort_string Tryd.sort111 blk off cap ss W hH hblk hsz),
   fun p cap W => callsIn_wide.2 (AnyM.slices_Sort_string_none Tryd.sort111 p cap W)⟩

/-- **maps.Keys[map[string]*cellarer/disk.file,string,*cellarer/disk.file], at whatever map, the nil one too:** a function value over ONE NEW BLOCK, which holds the map. -/
theorem Tryd.maps_Keys_83 (mb : Option Nat) (W : World) : CallsIn Fence.wide 5 Tryd.prog 83 #[.map mb] W fun e w' => e = .returned (.func (.func 112) #[] #[.pointer (some ⟨W.heap.size, 0, none⟩)]) ∧ w' = W.alloc (.cells #[.map mb] 118) :=
  AnyZ.keys_in Tryd.keys83 Fence.wide 5 trivial rfl mb W

set_option maxHeartbeats 1000000 in
/-- **slices.Sorted[string] AT WHAT maps.Keys[map[string]*cellarer/disk.file,string,*cellarer/disk.file] HANDED BACK FOR A MAP THAT IS NOT nil** ('w': the world AHEAD of maps.Keys' call): A NEW SLICE THAT HOLDS THE MAP's KEYS, SORTED; nil just where it has none; nothing that lay before has turned. -/
theorem Tryd.slices_Sorted_keys_82_83 {H : Type} (b nn : Nat) (D0 : DataW H) (R : Value → Option (DataW H × List MemPlace)) (w : World) (hown : w.ownsMap Tryd.prog 9 R b nn D0) (hmax : Maps.size D0 ≤ maxLen) (hbytes : Maps.size D0 * 16 ≤ 140737488355328) :
    CallsIn Fence.wide 5 Tryd.prog 82 #[.func (.func 112) #[] #[.pointer (some ⟨w.heap.size, 0, none⟩)]] (w.alloc (.cells #[.map (some b)] 118)) fun e w' => ∃ (v : Value) (ss : List (List UInt8)), e = .returned v ∧ ss.Perm (strKeys D0) ∧
      w'.ownsRow (w.alloc (.cells #[.map (some b)] 118)).heap.size 9 1 v ss.length ((ss.mergeSort (fun x y => decide (x ≤ y))).map encStr) ∧ (v = .slice none 0 0 ↔ ss = []) ∧ Below (w.alloc (.cells #[.map (some b)] 118)).heap.size (w.alloc (.cells #[.map (some b)] 118)) w' := by
  have hbl := hown.lt
  have hseq : SeqGives Fence.wide 2 Tryd.prog 112 #[.pointer (some ⟨w.heap.size, 0, none⟩)] encStr (fun ss => ss.Perm (strKeys D0)) (Maps.size D0) (w.alloc (.cells #[.map (some b)] 118)) :=
    AnyZ.keys_gives (ρ := Tryd.keys83_ren) { Tryd.keys83 with } Fence.wide _ trivial rfl (by omega) w.heap.size b nn D0 _ (by simp) (by simp) (by
      obtain ⟨es, clock, hb, Ft, hs, hD⟩ := hown
      exact ⟨es, clock, (Below.heap_alloc _ _ b hbl).trans hb, Ft, hs, hD⟩)
  exact AnyZ.sorted_in Tryd.sorted82 Fence.wide 5 trivial trivial trivial trivial rfl (by omega) (Tryd.sorts82 _) (enters_of Tryd.func111 (by kernel_rfl) rfl) 112 #[.pointer (some ⟨w.heap.size, 0, none⟩)] trivial (enters_of Tryd.func112 (by kernel_rfl) rfl) _ _ hmax hbytes _ hseq

set_option maxHeartbeats 1000000 in
/-- **.. AND FOR THE nil MAP: nil.** -/
theorem Tryd.slices_Sorted_keys_nil_82_83 (w : World) :
    CallsIn Fence.wide 5 Tryd.prog 82 #[.func (.func 112) #[] #[.pointer (some ⟨w.heap.size, 0, none⟩)]] (w.alloc (.cells #[.map none] 118)) fun e w' => ∃ (v : Value) (ss : List (List UInt8)), e = .returned v ∧ ss = [] ∧
      w'.ownsRow (w.alloc (.cells #[.map none] 118)).heap.size 9 1 v ss.length ((ss.mergeSort (fun x y => decide (x ≤ y))).map encStr) ∧ (v = .slice none 0 0 ↔ ss = []) ∧ Below (w.alloc (.cells #[.map none] 118)).heap.size (w.alloc (.cells #[.map none] 118)) w' := by
  have hseq : SeqGives Fence.wide 2 Tryd.prog 112 #[.pointer (some ⟨w.heap.size, 0, none⟩)] encStr (fun ss : List (List UInt8) => ss = []) 0 (w.alloc (.cells #[.map none] 118)) :=
    AnyZ.keys_gives_nil (ρ := Tryd.keys83_ren) { Tryd.keys83 with } Fence.wide _ trivial rfl w.heap.size _ (by simp) (by simp)
  exact AnyZ.sorted_in Tryd.sorted82 Fence.wide 5 trivial trivial trivial trivial rfl (by omega) (Tryd.sorts82 _) (enters_of Tryd.func111 (by kernel_rfl) rfl) 112 #[.pointer (some ⟨w.heap.size, 0, none⟩)] trivial (enters_of Tryd.func112 (by kernel_rfl) rfl) _ 0 (Nat.zero_le _) (by omega) _ hseq




end Go.Proofs.YtaoejgnfoecpfaaDoor
namespace Go.Proofs.YtaoejgnfoecpfaaDoor
set_option linter.unusedVariables false
set_option linter.unusedSimpArgs false
set_option linter.unusedSectionVars false
open Go.RowKit Go.Maps Go.Sort Go.Shelf

/-- the names, rising -/
def kvSort (ks : List (List UInt8)) : List (List UInt8) := ks.mergeSort (fun x y => decide (x ≤ y))
def kvNames {α : Type} (l : List (ByteArray × α)) : List ByteArray := (kvSort (l.map (·.1.data.toList))).map strM
  where strM (l : List UInt8) : ByteArray := ⟨l.toArray⟩
theorem kvNames_map {α β : Type} (f : α → β) (l : List (ByteArray × α)) : kvNames (kvMap f l) = kvNames l := by
  unfold kvNames kvMap; rw [List.map_map]; rfl
theorem kvSort_len (ks : List (List UInt8)) : (kvSort ks).length = ks.length := (List.mergeSort_perm ks _).length_eq
theorem kvNames_len {α : Type} (l : List (ByteArray × α)) : (kvNames l).length = l.length := by
  unfold kvNames; rw [List.length_map, kvSort_len, List.length_map]
theorem kvSort_perm {a b : List (List UInt8)} (h : a.Perm b) : kvSort a = kvSort b := by
  have ht : ∀ x y z : List UInt8, decide (x ≤ y) = true → decide (y ≤ z) = true → decide (x ≤ z) = true := by
    intro x y z h1 h2; simp only [decide_eq_true_eq] at *; exact List.le_trans h1 h2
  have hto : ∀ x y : List UInt8, (decide (x ≤ y) || decide (y ≤ x)) = true := by
    intro x y; simp only [Bool.or_eq_true, decide_eq_true_eq]; exact List.le_total x y
  have hp : (kvSort a).Perm (kvSort b) := ((List.mergeSort_perm a _).trans h).trans (List.mergeSort_perm b _).symm
  refine List.Perm.eq_of_pairwise (le := fun x y => decide (x ≤ y) = true) ?_ (List.pairwise_mergeSort ht hto a) (List.pairwise_mergeSort ht hto b) hp
  intro x y _ _ h1 h2
  simp only [decide_eq_true_eq] at h1 h2
  exact List.le_antisymm h1 h2

theorem strKeys_toD (l : List (ByteArray × Value)) : strKeys (toD l) = l.map (·.1.data.toList) := by
  simp [toD, strKeys]
  intro a b _; rfl

theorem keys_any (b : Nat) (w : World) : Calls Tryd.prog 83 #[.map (some b)] w fun e w' =>
    e = .returned (.func (.func 112) #[] #[.pointer (some ⟨w.heap.size, 0, none⟩)]) ∧ w' = w.alloc (.cells #[.map (some b)] 118) :=
  callsIn_wide.1 (Tryd.maps_Keys_83 (some b) w)

theorem sorted_any (b : Nat) (l : List (ByteArray × Value)) (w : World) (hown : ownsKV w Tryd.prog 9 b l) (hl : l.length ≤ 1000000) :
    Calls Tryd.prog 82 #[.func (.func 112) #[] #[.pointer (some ⟨w.heap.size, 0, none⟩)]] (w.alloc (.cells #[.map (some b)] 118)) fun e w' =>
      ∃ v, e = .returned v ∧ w'.ownsRow w.heap.size 9 1 v (kvNames l).length ((kvNames l).map .string) ∧ Below w.heap.size (w.alloc (.cells #[.map (some b)] 118)) w' := by
  have hs : Maps.size (toD l) = l.length := by simp [toD, Maps.size]
  refine (callsIn_wide.1 (Tryd.slices_Sorted_keys_82_83 b l.length (toD l) heldR w hown (by rw [hs]; unfold maxLen; omega) (by rw [hs]; omega))).mono ?_
  rintro e w' ⟨v, ss, rfl, hp, ho, _, hb⟩
  refine ⟨v, rfl, ?_, hb.mono (by simp)⟩
  rw [strKeys_toD] at hp
  have h1 : ss.length = (kvNames l).length := by rw [kvNames_len, hp.length_eq, List.length_map]
  have h2 : (ss.mergeSort (fun x y => decide (x ≤ y))).map encStr = (kvNames l).map .string := by
    unfold kvNames; rw [List.map_map, ← kvSort_perm hp]; rfl
  rw [h1, h2] at ho
  obtain ⟨q1, q2⟩ := ho
  refine ⟨q1, q2.imp id ?_⟩
  rintro ⟨g, cap, cur, r1, r2, r3⟩
  exact ⟨g, cap, cur, r1, by simp at r2; omega, r3⟩
end Go.Proofs.YtaoejgnfoecpfaaDoor
namespace Go.Proofs.YtaoejgnfoecpfaaDoor
set_option linter.unusedVariables false
set_option linter.unusedSimpArgs false
set_option linter.unusedSectionVars false
open Go.RowKit Go.Maps

/-- a step is kept or passed over -/
def leftStep (ks : List Int) (left : List (ByteArray × Nat)) (i : Nat) (s : Sp) : List (ByteArray × Nat) :=
  if sayI ks i % 2 = 0 then left else
  if s.kind = 1 ∧ kvGet left s.src = none then kvPut left s.src s.id else
  if s.kind = 2 ∧ kvGet left s.src = some s.id then kvPut (kvDel left s.src) s.dst s.id else
  if s.kind = 3 ∧ kvGet left s.src = some s.id then kvDel left s.src else left
/-- behind so many steps -/
def Dk.leftAt (D : Dk) (ks : List Int) : Nat → List (ByteArray × Nat)
  | 0 => D.sure
  | k + 1 => match D.steps[k]? with
    | none => D.leftAt ks k
    | some s => leftStep ks (D.leftAt ks k) k s
def Dk.left (D : Dk) (ks : List Int) : List (ByteArray × Nat) := D.leftAt ks D.steps.length
/-- how much of a file is left, that has the place i among the names -/
def Dk.keepN (D : Dk) (ks : List Int) (i id : Nat) : Nat :=
  (D.flAt id).safe + (sayI ks (D.steps.length + i) % (((D.flAt id).data.size - (D.flAt id).safe + 1 : Nat) : Int)).toNat
def Dk.leftFile (D : Dk) (ks : List Int) (i : Nat) (name : ByteArray) : Fl :=
  let id := (kvGet (D.left ks) name).getD 0
  ⟨(D.flAt id).data.extract 0 (D.keepN ks i id), D.keepN ks i id⟩
def Dk.leftNames (D : Dk) (ks : List Int) : List ByteArray := kvNames (D.left ks)
/-- the first k files that are left, and their folder -/
def Dk.newFiles (D : Dk) (ks : List Int) (k : Nat) : List Fl := (List.range k).map fun i => D.leftFile ks i ((D.leftNames ks).getD i ByteArray.empty)
def Dk.newFolder (D : Dk) (ks : List Int) : Nat → List (ByteArray × Nat)
  | 0 => []
  | k + 1 => kvPut (D.newFolder ks k) ((D.leftNames ks).getD k ByteArray.empty) k
def Dk.crash (D : Dk) (ks : List Int) : Dk :=
  { room := D.room, files := D.newFiles ks (D.leftNames ks).length, folder := D.newFolder ks (D.leftNames ks).length, sure := D.newFolder ks (D.leftNames ks).length, steps := [], arm := -1, dead := false }

/-- what holds of what is left -/
structure LeftOk (D : Dk) (l : List (ByteArray × Nat)) : Prop where
  ids : ∀ p ∈ l, p.2 < D.files.length
  nam : ∀ p ∈ l, p.1.size ≤ 80
  apart : kvApart l
theorem LeftOk.put {D : Dk} {l : List (ByteArray × Nat)} (h : LeftOk D l) (k : ByteArray) (v : Nat) (hk : k.size ≤ 80) (hv : v < D.files.length) : LeftOk D (kvPut l k v) where
  ids := fun p hp => (kvPut_mem hp).elim (fun e => by rw [e]; exact hv) (h.ids p)
  nam := fun p hp => (kvPut_mem hp).elim (fun e => by rw [e]; exact hk) (h.nam p)
  apart := kvApart_put k v h.apart
theorem LeftOk.del {D : Dk} {l : List (ByteArray × Nat)} (h : LeftOk D l) (k : ByteArray) : LeftOk D (kvDel l k) where
  ids := fun p hp => h.ids p (kvDel_mem hp)
  nam := fun p hp => h.nam p (kvDel_mem hp)
  apart := kvApart_del k h.apart
theorem LeftOk.step {D : Dk} {l : List (ByteArray × Nat)} (h : LeftOk D l) (ks : List Int) (i : Nat) (s : Sp) (hs : s.id < D.files.length ∧ s.src.size ≤ 80 ∧ s.dst.size ≤ 80) : LeftOk D (leftStep ks l i s) := by
  unfold leftStep
  split
  · exact h
  · split
    · exact h.put _ _ hs.2.1 hs.1
    · split
      · exact (h.del _).put _ _ hs.2.2 hs.1
      · split
        · exact h.del _
        · exact h
theorem DkOk.leftAt {D : Dk} (h : DkOk D) (ks : List Int) (k : Nat) : LeftOk D (D.leftAt ks k) := by
  induction k with
  | zero => exact ⟨h.sur, h.snm, h.sap⟩
  | succ k ih =>
    unfold Dk.leftAt
    split
    · exact ih
    · next s hs => exact ih.step ks k s (h.stp s (List.mem_of_getElem? hs))
theorem leftStep_len (ks : List Int) (l : List (ByteArray × Nat)) (i : Nat) (s : Sp) : (leftStep ks l i s).length ≤ l.length + 1 := by
  unfold leftStep
  split
  · omega
  · split
    · exact kvPut_len _ _ _
    · split
      · exact Nat.le_trans (kvPut_len _ _ _) (Nat.succ_le_succ (kvDel_len _ _))
      · split
        · exact Nat.le_trans (kvDel_len _ _) (Nat.le_succ _)
        · omega
theorem Dk.leftAt_len (D : Dk) (ks : List Int) (k : Nat) : (D.leftAt ks k).length ≤ D.sure.length + k := by
  induction k with
  | zero => exact Nat.le_refl _
  | succ k ih =>
    unfold Dk.leftAt
    split
    · omega
    · exact Nat.le_trans (leftStep_len _ _ _ _) (by omega)
theorem Dk.leftAt_succ (D : Dk) (ks : List Int) (k : Nat) (h : k < D.steps.length) : D.leftAt ks (k + 1) = leftStep ks (D.leftAt ks k) k D.steps[k] := by
  show (match D.steps[k]? with | none => D.leftAt ks k | some s => leftStep ks (D.leftAt ks k) k s) = _
  rw [List.getElem?_eq_getElem h]
theorem Dk.newFolder_len (D : Dk) (ks : List Int) (k : Nat) : (D.newFolder ks k).length ≤ k := by
  induction k with
  | zero => exact Nat.le_refl _
  | succ k ih => exact Nat.le_trans (kvPut_len _ _ _) (by omega)
end Go.Proofs.YtaoejgnfoecpfaaDoor
namespace Go.Proofs.YtaoejgnfoecpfaaDoor
set_option linter.unusedVariables false
set_option linter.unusedSimpArgs false
set_option linter.unusedSectionVars false
open Go.RowKit Go.Maps

def Dk.small (D : Dk) (n : Nat) : Prop := D.files.length ≤ n ∧ D.steps.length ≤ n
theorem small_remove {D : Dk} {n : Nat} (h : D.small n) (name : ByteArray) : (D.remove name).1.small (n + 1) := by
  obtain ⟨h1, h2⟩ := h
  unfold Dk.remove
  split
  · exact ⟨Nat.le_succ_of_le h1, Nat.le_succ_of_le h2⟩
  · split
    · exact ⟨Nat.le_succ_of_le h1, by simp; omega⟩
    · exact ⟨Nat.le_succ_of_le h1, Nat.le_succ_of_le h2⟩
theorem small_append {D : Dk} {n : Nat} (h : D.small n) (name data : ByteArray) : (D.append name data).1.small (n + 1) := by
  obtain ⟨h1, h2⟩ := h
  have ha : D.alive.small (n + 1) := ⟨Nat.le_succ_of_le h1, Nat.le_succ_of_le h2⟩
  unfold Dk.append
  split
  · exact ha
  · split
    · exact ha
    · split
      · exact ha
      · unfold Dk.put
        split
        · exact ⟨by simp; exact ha.1, ha.2⟩
        · exact ⟨by simp; exact h1, by simp; exact h2⟩
theorem small_sync {D : Dk} {n : Nat} (h : D.small n) (name : ByteArray) : (D.sync name).1.small n := by
  obtain ⟨h1, h2⟩ := h
  unfold Dk.sync
  split
  · exact ⟨h1, h2⟩
  · split
    · exact ⟨by simp; exact h1, h2⟩
    · exact ⟨h1, h2⟩
theorem small_rename {D : Dk} {n : Nat} (h : D.small n) (name dst : ByteArray) : (D.rename name dst).1.small (n + 1) := by
  obtain ⟨h1, h2⟩ := h
  have ha : D.alive.small (n + 1) := ⟨Nat.le_succ_of_le h1, Nat.le_succ_of_le h2⟩
  unfold Dk.rename
  split
  · exact ha
  · split
    · split
      · exact ha
      · exact ⟨Nat.le_succ_of_le h1, by simp; exact h2⟩
    · exact ha
theorem small_settle {D : Dk} {n : Nat} (h : D.small n) : D.settle.1.small n := by
  obtain ⟨h1, h2⟩ := h
  unfold Dk.settle
  split
  · exact ⟨h1, h2⟩
  · exact ⟨h1, Nat.zero_le _⟩
theorem Dk.small.mono {D : Dk} {n m : Nat} (h : D.small n) (hm : n ≤ m) : D.small m := ⟨Nat.le_trans h.1 hm, Nat.le_trans h.2 hm⟩

theorem DkPost.trans {b : Nat} {L L1 : Lay} {D2 : Dk} {w w1 w2 : World} (ht : Touch (· ∈ foot b L) w w1) (hf : ∀ k ∈ foot b L1, k ∈ foot b L ∨ w.heap.size ≤ k) (h : DkPost b L1 D2 w1 w2) : DkPost b L D2 w w2 := by
  obtain ⟨L2, h1, h2, h3⟩ := h
  refine ⟨L2, h1, ht.trans h2 (fun i hi hm => (hf i hm).resolve_right (by omega)), fun k hk => ?_⟩
  rcases h3 k hk with h | h
  · exact hf k h
  · exact Or.inr (Nat.le_trans ht.size h)
theorem DkPost.of {b : Nat} {L : Lay} {D : Dk} {w w' : World} (h : DiskAt w' b D L) (ht : Below w.heap.size w w') : DkPost b L D w w' := ⟨L, h, Touch.of_below _ ht, fun _ hk => Or.inl hk⟩

end Go.Proofs.YtaoejgnfoecpfaaDoor
namespace Go.Proofs.YtaoejgnfoecpfaaDoor
set_option linter.unusedVariables false
set_option linter.unusedSimpArgs false
set_option linter.unusedSectionVars false
open Go.RowKit Go.Maps

section
variable {P : Program} {w : World} {ops : Array Oper} {rest : List Oper} {o : Oper} {a : Act} {Q : Exit → Act → World → Prop}
/-- m[k] without ok, at a key that is there -/
theorem wpList_kvThere (hg : o.guard = none) (m x : Operand) (t : TypeId) (hop : o.op = Op.lookup t m x false)
    {k e : TypeId} (hk : P.underlying k = some .string) (ht : P.underlying t = some (.map k e)) {z : Value} (hz : (zeroValue e).run P w = .ok z w) {b : Nat} {l : List (ByteArray × Value)}
    (hm : a.eval m = .map (some b)) (hown : ownsKV w P k b l) {s : ByteArray} (hx : a.eval x = .string s) (hs : s.size ≤ maxLen) {v : Value} (hv : kvGet l s = some v)
    (hK : wpList P ops Q rest (a.put o.dst v) w) :
    wpList P ops Q (o :: rest) a w := by
  refine wpList_plain hg fun K' hK' => ?_
  obtain ⟨u, ps, hrun, hu⟩ := World.ownsMap.lookup hown (string_keyed hk) ht hz (R := heldR) (zd := .held z) (zp := []) rfl (WideMaps.keyOf_string_mk hk hs)
  rw [toD_at, hv] at hu
  simp [heldR] at hu
  obtain ⟨rfl, _⟩ := hu
  unfold Oper.wp
  simp [execOp, hop, hm, hx, hrun, Result.andThen]
  exact hK' _ _ hK
end

theorem flat4 {α : Type} (f : α → List Value) (hf : ∀ s, (f s).length = 4) (l : List α) (k j : Nat) (hk : k < l.length) (hj : j < 4) : (l.flatMap f)[k * 4 + j]? = (f l[k])[j]? := by
  induction l generalizing k with
  | nil => simp at hk
  | cons x r ih =>
    rw [List.flatMap_cons]
    cases k with
    | zero => rw [List.getElem?_append_left (by rw [hf]; omega)]; simp
    | succ k =>
      rw [List.getElem?_append_right (by rw [hf]; omega), hf, show (k + 1) * 4 + j - 4 = k * 4 + j by omega, ih k (by simpa using hk)]
      simp

/-- the cells of a step -/
theorem step_cell {w : World} {v : Value} {l : List Sp} {bs : List Nat} (h : w.ownsRow 0 128 4 v l.length (l.flatMap (stepCells bs))) {k : Nat} (hk : k < l.length) :
    ∃ g cap, v = .slice (some ⟨g, 0, none⟩) l.length cap ∧ g < w.heap.size ∧ ∀ j, j < 4 → w.cell? ⟨g, k * 4 + j, none⟩ = (stepCells bs l[k])[j]? := by
  rcases h.2 with ⟨_, h0⟩ | ⟨g, cap, cur, hv, _⟩
  · omega
  · subst hv
    refine ⟨g, cap, rfl, (ownsRow_lt h (k := g) rfl).2, fun j hj => ?_⟩
    have h4 := flat4 (stepCells bs) (fun s => rfl) l k j hk hj
    have hj' : j < (stepCells bs l[k]).length := hj
    rw [List.getElem?_eq_getElem hj'] at h4 ⊢
    have := World.ownsRow.cells h (g := g) rfl _ _ h4
    have hadd : (⟨g, 0, none⟩ : Addr).add (k * 4 + j) = ⟨g, 0 + (k * 4 + j), none⟩ := by unfold Addr.add; split <;> simp_all
    rw [hadd, Nat.zero_add] at this; exact this

/-- every name that is left has a file -/
theorem kvNames_mem {α : Type} {l : List (ByteArray × α)} {s : ByteArray} (h : s ∈ kvNames l) : ∃ v, (s, v) ∈ l := by
  unfold kvNames at h
  obtain ⟨x, hx, rfl⟩ := List.mem_map.1 h
  have h1 := (List.mergeSort_perm _ _).mem_iff.1 hx
  obtain ⟨p, hp, rfl⟩ := List.mem_map.1 h1
  refine ⟨p.2, ?_⟩
  have e : kvNames.strM p.1.data.toList = p.1 := ByteArray.ext (by simp [kvNames.strM])
  rw [e]; exact hp
theorem kvNames_get {l : List (ByteArray × Nat)} (ha : kvApart l) {k : Nat} (hk : k < (kvNames l).length) : ∃ i, ((kvNames l)[k], i) ∈ l ∧ kvGet l (kvNames l)[k] = some i := by
  obtain ⟨i, hi⟩ := kvNames_mem (List.getElem_mem hk)
  exact ⟨i, hi, kvGet_of_mem ha hi⟩
theorem kvNames_nodup {α : Type} {l : List (ByteArray × α)} (ha : kvApart l) : (kvNames l).Nodup := by
  unfold kvNames
  have h1 : (l.map (·.1.data.toList)).Nodup := by
    unfold List.Nodup
    rw [List.pairwise_map]
    exact ha.imp fun {p q} h e => h (ba_eq.1 e)
  have h2 : (kvSort (l.map (·.1.data.toList))).Nodup := (List.mergeSort_perm _ _).nodup_iff.2 h1
  unfold List.Nodup at h2 ⊢
  rw [List.pairwise_map]
  exact h2.imp fun {p q} h e => h (by simpa [kvNames.strM] using e)

section
variable {ks : List Int} {left : List (ByteArray × Nat)} {i : Nat} {kind : Int} {src dst : ByteArray} {id : Nat}
theorem leftStep_skip (s : Sp) (h : sayI ks i % 2 = 0) : leftStep ks left i s = left := by unfold leftStep; rw [if_pos h]
theorem leftStep_put (h : ¬ sayI ks i % 2 = 0) (hg : kvGet left src = none) : leftStep ks left i ⟨1, src, dst, id⟩ = kvPut left src id := by
  unfold leftStep; rw [if_neg h, if_pos ⟨rfl, hg⟩]
theorem leftStep_ren (h : ¬ sayI ks i % 2 = 0) (hg : kvGet left src = some id) : leftStep ks left i ⟨2, src, dst, id⟩ = kvPut (kvDel left src) dst id := by
  unfold leftStep; rw [if_neg h, if_neg (by simp), if_pos ⟨rfl, hg⟩]
theorem leftStep_del (h : ¬ sayI ks i % 2 = 0) (hg : kvGet left src = some id) : leftStep ks left i ⟨3, src, dst, id⟩ = kvDel left src := by
  unfold leftStep; rw [if_neg h, if_neg (by simp), if_neg (by simp), if_pos ⟨rfl, hg⟩]
theorem leftStep_none (hg : kvGet left src = none) (hk : kind ≠ 1) : leftStep ks left i ⟨kind, src, dst, id⟩ = left := by
  unfold leftStep; simp [hg, hk]
theorem leftStep_other {j : Nat} (hg : kvGet left src = some j) (hj : j ≠ id) : leftStep ks left i ⟨kind, src, dst, id⟩ = left := by
  unfold leftStep; simp [hg, hj]
theorem leftStep_kind {j : Nat} (hg : kvGet left src = some j) (h2 : kind ≠ 2) (h3 : kind ≠ 3) : leftStep ks left i ⟨kind, src, dst, id⟩ = left := by
  unfold leftStep; simp [hg, h2, h3]
end
theorem sayI_ok {ks : List Int} (h : ∀ x ∈ ks, -9223372036854775808 ≤ x ∧ x ≤ 9223372036854775807) (i : Nat) : -9223372036854775808 ≤ sayI ks i ∧ sayI ks i ≤ 9223372036854775807 := by
  unfold sayI
  split
  · omega
  · next h0 =>
    have hm : i % ks.length < ks.length := Nat.mod_lt _ (List.length_pos_iff.2 h0)
    rw [List.getD, List.getElem?_eq_getElem hm]
    exact h _ (List.getElem_mem hm)

theorem infoFile : ∃ j, Tryd.prog.info? 126 = some j ∧ j.size ≠ 0 := by
  have h : (Tryd.prog.info? 126).map (fun i => i.size) = some 2 := by kernel_rfl
  obtain ⟨j, hj, hs⟩ := Option.map_eq_some_iff.1 h
  exact ⟨j, hj, by omega⟩
theorem file_same (w : World) (c : Nat) : (binOp .eql 123 (.pointer (some ⟨c, 0, none⟩)) (.pointer (some ⟨c, 0, none⟩))).run Tryd.prog w = .ok (.bool true) w := by
  obtain ⟨j, hj, _⟩ := infoFile
  exact run_eql_ptr_same w ⟨c, 0, none⟩ Tryd.underlying123 hj
theorem file_other {w : World} {c d : Nat} {xs ys : Array Value} (hc : BlockIs w c xs 126) (hd : BlockIs w d ys 126) (h : c ≠ d) :
    (binOp .eql 123 (.pointer (some ⟨c, 0, none⟩)) (.pointer (some ⟨d, 0, none⟩))).run Tryd.prog w = .ok (.bool false) w := by
  obtain ⟨j, hj, hs⟩ := infoFile
  exact run_eql_ptr_other w Tryd.underlying123 hj hs (fun e => h (congrArg Addr.block e)) hc hd

/-- the file that has the place i among those that are left -/
def Dk.newFl (D : Dk) (ks : List Int) (i : Nat) : Fl := D.leftFile ks i ((D.leftNames ks).getD i ByteArray.empty)
theorem newFolder_ids (D : Dk) (ks : List Int) (k : Nat) : ∀ p ∈ D.newFolder ks k, p.2 < k := by
  induction k with
  | zero => intro p hp; simp [Dk.newFolder] at hp
  | succ k ih =>
    intro p hp
    rcases kvPut_mem hp with rfl | h
    · exact Nat.lt_succ_self _
    · exact Nat.lt_succ_of_lt (ih p h)
theorem newFolder_apart (D : Dk) (ks : List Int) (k : Nat) : kvApart (D.newFolder ks k) := by
  induction k with
  | zero => exact List.Pairwise.nil
  | succ k ih => exact kvApart_put _ _ ih
theorem getD_left {l : List Nat} {n i : Nat} (h : i < l.length) : (l ++ [n]).getD i 0 = l.getD i 0 := by
  simp [List.getD, List.getElem?_append_left h]
theorem getD_last (l : List Nat) (n : Nat) : (l ++ [n]).getD l.length 0 = n := by
  simp [List.getD]
/-- behind k of the files that are left: the new map, the new files -/
structure NewAt (w6 wr : World) (fm : Nat) (D : Dk) (ks : List Int) (k : Nat) (newbs : List Nat) : Prop where
  touch : Touch (· = fm) w6 wr
  len : newbs.length = k
  new : ∀ c ∈ newbs, w6.heap.size ≤ c
  nd : newbs.Nodup
  fs : ∀ i, i < k → BlockIs wr (newbs.getD i 0) (flCells (D.newFl ks i)) 126
  mp : ownsKV wr Tryd.prog 9 fm (kvMap (fileV newbs) (D.newFolder ks k))
theorem NewAt.lt {w6 wr : World} {fm : Nat} {D : Dk} {ks : List Int} {k : Nat} {newbs : List Nat} (h : NewAt w6 wr fm D ks k newbs) : ∀ c ∈ newbs, c < wr.heap.size := by
  intro c hc
  obtain ⟨i, hi, rfl⟩ := List.getElem_of_mem hc
  have := (h.fs i (by rw [← h.len]; exact hi)).lt
  simpa [List.getD, List.getElem?_eq_getElem hi] using this
theorem NewAt.step {w6 wr w' : World} {fm : Nat} {D : Dk} {ks : List Int} {k : Nat} {newbs : List Nat} (h : NewAt w6 wr fm D ks k newbs) (hfm : fm < w6.heap.size) {n0 : Nat} (hn : wr.heap.size ≤ n0) (ht : Touch (· = fm) wr w')
    (hb : BlockIs w' n0 (flCells (D.newFl ks k)) 126) (hm : ownsKV w' Tryd.prog 9 fm (kvPut (kvMap (fileV newbs) (D.newFolder ks k)) ((D.leftNames ks).getD k ByteArray.empty) (ptrV n0))) : NewAt w6 w' fm D ks (k + 1) (newbs ++ [n0]) where
  touch := h.touch.trans ht (fun _ _ h => h)
  len := by rw [List.length_append, h.len]; rfl
  new := by
    intro c hc
    rcases List.mem_append.1 hc with hc | hc
    · exact h.new c hc
    · rw [List.mem_singleton.1 hc]; exact Nat.le_trans h.touch.size hn
  nd := by
    refine List.nodup_append.2 ⟨h.nd, by simp, ?_⟩
    intro c hc d hd e
    have h1 := h.lt c hc
    rw [List.mem_singleton.1 hd] at e; omega
  fs := by
    intro i hi
    by_cases hk : i < k
    · rw [getD_left (by rw [h.len]; exact hk)]
      have h1 := h.fs i hk
      have h2 : newbs.getD i 0 ∈ newbs := getD_mem (by rw [h.len]; exact hk)
      exact h1.keep (ht.block _ h1.lt (by have := h.new _ h2; omega))
    · obtain rfl : i = k := by omega
      have e : (newbs ++ [n0]).getD i 0 = n0 := by rw [← h.len]; exact getD_last _ _
      rw [e]; exact hb
  mp := by
    show ownsKV w' _ _ fm (kvMap (fileV (newbs ++ [n0])) (kvPut (D.newFolder ks k) ((D.leftNames ks).getD k ByteArray.empty) k))
    rw [← kvPut_map, show fileV (newbs ++ [n0]) k = ptrV n0 by rw [← h.len]; exact fileV_new _ _,
      kvMap_congr (g := fileV newbs) (fun p hp => fileV_old (by rw [h.len]; exact newFolder_ids D ks k p hp))]
    exact hm

/-- an owned row of texts, to be read -/
theorem row_reads {w : World} {base : Nat} {e : TypeId} {v : Value} {l : List ByteArray} (h : w.ownsRow base e 1 v l.length (l.map .string)) :
    ∃ a c, v = .slice a l.length c ∧ ∀ i (hi : i < l.length), ∃ g, a = some ⟨g, 0, none⟩ ∧ base ≤ g ∧ g < w.heap.size ∧ w.cell? ⟨g, i, none⟩ = some (.string l[i]) := by
  rcases h.2 with ⟨hv, h0⟩ | ⟨g, cap, cur, hv, _⟩
  · exact ⟨none, 0, by rw [hv, h0], fun k hk => by omega⟩
  · subst hv
    refine ⟨_, _, rfl, fun i hi => ⟨g, rfl, (ownsRow_lt h (k := g) rfl).1, (ownsRow_lt h (k := g) rfl).2, ?_⟩⟩
    have := own_cell h (j := i) (u := .string l[i]) (by simp [List.getElem?_eq_getElem hi])
    have hadd : (⟨g, 0, none⟩ : Addr).add i = ⟨g, 0 + i, none⟩ := by unfold Addr.add; split <;> simp_all
    rw [hadd, Nat.zero_add] at this; exact this

theorem keepN_le {D : Dk} (h : DkOk D) (ks : List Int) (i id : Nat) : D.keepN ks i id ≤ (D.flAt id).data.size := by
  have hz := (flAt_le h id).2
  unfold Dk.keepN
  have h1 := Int.emod_lt_of_pos (sayI ks (D.steps.length + i)) (b := (((D.flAt id).data.size - (D.flAt id).safe + 1 : Nat) : Int)) (by omega)
  omega
theorem newFl_ok {D : Dk} (h : DkOk D) (ks : List Int) (i : Nat) : (D.newFl ks i).data.size ≤ 1073741824 ∧ (D.newFl ks i).safe ≤ (D.newFl ks i).data.size := by
  unfold Dk.newFl Dk.leftFile
  simp only [ByteArray.size_extract]
  generalize (kvGet (D.left ks) ((D.leftNames ks).getD i ByteArray.empty)).getD 0 = id
  have h1 := keepN_le h ks i id
  have h2 := (flAt_le h id).1
  omega
theorem leftNames_size {D : Dk} (h : DkOk D) (ks : List Int) (k : Nat) : ((D.leftNames ks).getD k ByteArray.empty).size ≤ 80 := by
  by_cases hk : k < (D.leftNames ks).length
  · rw [List.getD, List.getElem?_eq_getElem hk]
    obtain ⟨i, hi⟩ := kvNames_mem (l := D.left ks) (List.getElem_mem hk)
    exact (h.leftAt ks D.steps.length).nam _ hi
  · rw [List.getD, List.getElem?_eq_none (by omega)]; exact Nat.zero_le _
theorem newFolder_nam {D : Dk} (h : DkOk D) (ks : List Int) (k : Nat) : ∀ p ∈ D.newFolder ks k, p.1.size ≤ 80 := by
  induction k with
  | zero => intro p hp; simp [Dk.newFolder] at hp
  | succ k ih =>
    intro p hp
    rcases kvPut_mem hp with rfl | h1
    · exact leftNames_size h ks k
    · exact ih p h1
theorem crash_files (D : Dk) (ks : List Int) : (D.crash ks).files.length = (D.leftNames ks).length := by
  simp [Dk.crash, Dk.newFiles]
theorem crash_flAt (D : Dk) (ks : List Int) (i : Nat) (h : i < (D.leftNames ks).length) : (D.crash ks).flAt i = D.newFl ks i := by
  unfold Dk.flAt Dk.crash Dk.newFiles Dk.newFl
  simp [List.getD, h]
theorem DkOk.crash {D : Dk} (h : DkOk D) (ks : List Int) : DkOk (D.crash ks) where
  fol := fun p hp => by rw [crash_files]; exact newFolder_ids D ks _ p hp
  sur := fun p hp => by rw [crash_files]; exact newFolder_ids D ks _ p hp
  stp := fun s hs => by simp [Dk.crash] at hs
  fap := newFolder_apart D ks _
  sap := newFolder_apart D ks _
  fln := by rw [crash_files]; exact D.newFolder_len ks _
  sln := by rw [crash_files]; exact D.newFolder_len ks _
  dat := by
    intro f hf
    obtain ⟨i, hi, rfl⟩ := List.mem_map.1 (show f ∈ (List.range _).map _ from hf)
    exact newFl_ok h ks i
  arm := ⟨by simp [Dk.crash], by simp [Dk.crash]⟩
  rm := h.rm
  nam := newFolder_nam h ks _
  snm := newFolder_nam h ks _
theorem crash_fin {w w6 wr w8 w9 : World} {b fm : Nat} {D : Dk} {L : Lay} {ks : List Int} {newbs : List Nat} (H : DiskAt w b D L) (h6 : Below w.heap.size w w6) (hfm : fm < w6.heap.size) (hfw : w.heap.size ≤ fm)
    (HA : NewAt w6 wr fm D ks (D.leftNames ks).length newbs) (hcl : ownsKV w8 Tryd.prog 9 wr.heap.size (kvMap (fileV newbs) (D.newFolder ks (D.leftNames ks).length))) (h8 : Below wr.heap.size wr w8) (h9 : Touch (· = b) w8 w9)
    (hb : BlockIs w9 b (dkCells D.room fm wr.heap.size (.slice none 0 0) (-1) false) 121) : DkPost b L (D.crash ks) w w9 := by
  have hbl := H.blk.lt
  have hz6 := h6.size
  have hzr := HA.touch.size
  have hz8 := h8.size
  have hcw := ownsKV_lt hcl
  have hk : ∀ k, k < wr.heap.size → k ≠ b → w9.heap[k]? = wr.heap[k]? := fun k h1 h2 => (h9.block k (by omega) h2).trans (h8.block k h1)
  refine ⟨⟨fm, wr.heap.size, .slice none 0 0, newbs⟩, ?_, ?_, ?_⟩
  · exact
    { blk := hb
      mp := ownsKV_block HA.mp (hk fm (by omega) (by omega))
      sf := ownsKV_block hcl (h9.block wr.heap.size hcw (show ¬ wr.heap.size = b by omega))
      st := ⟨rfl, Or.inl ⟨rfl, rfl⟩⟩
      len := by rw [crash_files]; exact HA.len
      fs := fun i hi => by
        rw [crash_files] at hi
        have hm : newbs.getD i 0 ∈ newbs := getD_mem (by rw [HA.len]; exact hi)
        have h1 := HA.lt _ hm
        have h2 := HA.new _ hm
        rw [crash_flAt D ks i hi]
        exact (HA.fs i hi).keep (hk _ h1 (by show newbs.getD i 0 ≠ b; omega))
      nd := by
        simp only [foot, Value.ownBlock, Option.toList, List.nil_append, List.nodup_cons, List.mem_cons, not_or]
        exact ⟨⟨by omega, by omega, fun h => by have := HA.new _ h; omega⟩, ⟨by omega, fun h => by have := HA.new _ h; omega⟩, fun h => by have := HA.lt _ h; omega, HA.nd⟩
      ok := H.ok.crash ks }
  · exact ((((Touch.of_below (fun _ => False) h6).trans HA.touch (fun i hi e => by omega)).trans (Touch.of_below (fun _ => False) h8) (fun _ _ h => h.elim)).mono (fun _ _ h => h.elim)).trans h9 (fun i _ hi => by simp [foot, hi])
  · intro k hk
    have hk : k = b ∨ k = fm ∨ k = wr.heap.size ∨ k ∈ newbs := by
      simpa only [foot, List.mem_cons, List.mem_append, Value.ownBlock, Option.mem_toList, reduceCtorEq, false_or] using hk
    rcases hk with rfl | rfl | rfl | hk
    · exact Or.inl (by simp [foot])
    · exact Or.inr hfw
    · exact Or.inr (by omega)
    · exact Or.inr (by have := HA.new _ hk; omega)
end Go.Proofs.YtaoejgnfoecpfaaDoor
namespace Go.Proofs.YtaoejgnfoecpfaaDoor
set_option linter.unusedVariables false
set_option linter.unusedSimpArgs false
set_option linter.unusedSectionVars false
open Go.RowKit Go.Maps

theorem cell_lt {w : World} {p : Addr} {u : Value} (h : w.cell? p = some u) : p.block < w.heap.size := by
  unfold World.cell? at h
  cases hb : w.heap[p.block]? with
  | none => simp [hb] at h
  | some o => exact (Array.getElem?_eq_some_iff.1 hb).1
theorem RowInt.below {w w' : World} {v : Value} {l : List Int} (h : RowInt w v l) (hb : Below w.heap.size w w') : RowInt w' v l := by
  rcases h with h | ⟨g, o, cap, rfl, hc⟩
  · exact Or.inl h
  · exact Or.inr ⟨g, o, cap, rfl, fun j hj => (hb.cell (p := ⟨g, o + j, none⟩) (cell_lt (hc j hj) :)).trans (hc j hj)⟩
/-- the steps' row, to be read -/
theorem steps_row {w : World} {v : Value} {l : List Sp} {bs : List Nat} (h : w.ownsRow 0 128 4 v l.length (l.flatMap (stepCells bs))) :
    ∃ a c, v = .slice a l.length c ∧ ∀ k (hk : k < l.length), ∃ g, a = some ⟨g, 0, none⟩ ∧ g < w.heap.size ∧ ∀ j, j < 4 → w.cell? ⟨g, k * 4 + j, none⟩ = (stepCells bs l[k])[j]? := by
  rcases h.2 with ⟨hv, h0⟩ | ⟨g, cap, cur, hv, _⟩
  · exact ⟨none, 0, by rw [hv, h0], fun k hk => by omega⟩
  · refine ⟨some ⟨g, 0, none⟩, cap, hv, fun k hk => ?_⟩
    obtain ⟨g', cap', e, h1, h2⟩ := step_cell h hk
    rw [hv] at e
    simp only [Value.slice.injEq, Option.some.injEq, Addr.mk.injEq] at e
    exact ⟨g', by rw [e.1.1], h1, h2⟩

set_option maxHeartbeats 1600000 in
set_option maxRecDepth 100000 in
theorem crash_any (b : Nat) (D : Dk) (L : Lay) (ks : List Int) (v : Value) (w : World) (h : DiskAt w b D L) (hv : RowInt w v ks) (hkl : ks.length ≤ 9223372036854775807) (hkb : ∀ x ∈ ks, -9223372036854775808 ≤ x ∧ x ≤ 9223372036854775807) (hst0 : D.steps.length ≤ 400000) (hf0 : D.files.length ≤ 400000) :
    Calls Tryd.prog 36 #[.pointer (some ⟨b, 0, none⟩), v] w fun e w' => e = .returned (.tuple #[]) ∧ DkPost b L (D.crash ks) w w' := by
  have hbl := h.blk.lt
  have HKB := Lib.hid hkb
  clear hkb
  have hve : ∃ va vc, v = .slice va ks.length vc := by
    rcases hv with ⟨⟨a, c, rfl⟩, rfl⟩ | ⟨g, o, cap, rfl, _⟩
    · exact ⟨_, _, rfl⟩
    · exact ⟨_, _, rfl⟩
  obtain ⟨va, vc, rfl⟩ := hve
  have c2 : w.cell? ⟨b, 2, none⟩ = some (.map (some L.sm)) := h.blk.cell 2
  have c3 : w.cell? ⟨b, 3, none⟩ = some L.v := h.blk.cell 3
  obtain ⟨a, c, hLv, hrow⟩ := steps_row h.st
  rw [hLv] at c3
  have HROW := Lib.hid hrow
  have c3w := Lib.hid c3
  have H := Lib.hid h
  have HV := Lib.hid hv
  clear hLv hrow h hv
  have HCL := Lib.hid fun w' (hb : Below w.heap.size w w') => clone_any L.sm _ w' (H.out.below hb).sf
  have HSAY := Lib.hid fun i bx w' (h1 : RowInt w' (.slice va ks.length vc) ks) (h2 : w'.cell? ⟨bx, 0, none⟩ = some (.slice va ks.length vc)) (hi : i ≤ 4611686018427387904) => say_any ks i bx _ w' h1 h2 hi hkl
  go_enter Tryd.func36, Tryd.ntmps36
  go_wp2_with fail
  have hb0 : Below w.heap.size w (w.alloc (  .cells #[.slice va ks.length vc] 51)) := (Below.refl _ w).alloc (Nat.le_refl _) _
  refine (HCL.out _ hb0).mono ?_
  rintro e w1 ⟨rfl, hlm, hb1, hz1⟩
  have hb01 : Below w.heap.size w w1 := hb0.trans (hb1.mono (by simp))
  have hbox : w1.cell? ⟨w.heap.size, 0, none⟩ = some (.slice va ks.length vc) := (hb1.cell (p := ⟨w.heap.size, 0, none⟩) (by simp)).trans ((BlockIs.new w #[.slice va ks.length vc] 51).cell 0)
  have c31 : w1.cell? ⟨b, 3, none⟩ = some (.slice a D.steps.length c) := (hb01.cell (p := ⟨b, 3, none⟩) hbl).trans c3
  simp only [World.size_alloc] at hlm hz1
  have HB := Lib.hid hb01
  have HZ := Lib.hid hz1
  clear hb0 hb1 hb01 hz1 c2 c3 HCL
  have e0 : Hid (kvMap (fileV L.bs) D.sure = kvMap (fileV L.bs) (D.leftAt ks 0)) := rfl
  rw [e0.out] at hlm
  clear e0
  have HLM := Lib.hid hlm
  clear hlm
  go_wp2
  go_loopw [26] (fun i wr => ∃ k : Nat, k ≤ D.steps.length ∧ i = .int .i64 k ∧ Touch (· = w.heap.size + 1) w1 wr ∧ ownsKV wr Tryd.prog 9 (w.heap.size + 1) (kvMap (fileV L.bs) (D.leftAt ks k))) (fun i _ => D.steps.length - (intOf i).toNat)
  case atStart => exact ⟨0, Nat.zero_le _, rfl, Touch.refl _ _, HLM.out⟩
  case round =>
    obtain ⟨k, hk, rfl, ht, hm⟩ := hrel
    by_cases hlt : k < D.steps.length
    · obtain ⟨g, rfl, hg, hcs⟩ := HROW.out k hlt
      have hgne : g ≠ w.heap.size + 1 := by omega
      have hgr : ∀ j, j < 4 → wr.cell? ⟨g, k * 4 + j, none⟩ = (stepCells L.bs D.steps[k])[j]? := fun j hj =>
        (ht.cell (p := ⟨g, k * 4 + j, none⟩) (Nat.lt_of_lt_of_le hg HB.out.size) hgne).trans ((HB.out.cell (p := ⟨g, k * 4 + j, none⟩) hg).trans (hcs j hj))
      have hidl := (H.out.ok.stp D.steps[k] (List.getElem_mem _))
      have HSUCC := Lib.hid (D.leftAt_succ ks k hlt)
      have HLK := Lib.hid (H.out.ok.leftAt ks k)
      generalize D.steps[k] = s at hgr hidl HSUCC hcs
      obtain ⟨kind, src, dst, id⟩ := s
      have d0 : wr.cell? ⟨g, k * 4, none⟩ = some (.int .i64 kind) := hgr 0 (by omega)
      have d1 : wr.cell? ⟨g, k * 4 + 1, none⟩ = some (.string src) := hgr 1 (by omega)
      have d2 : wr.cell? ⟨g, k * 4 + 2, none⟩ = some (.string dst) := hgr 2 (by omega)
      have d3 : wr.cell? ⟨g, k * 4 + 3, none⟩ = some (fileV L.bs id) := hgr 3 (by omega)
      have HID := Lib.hid hidl
      have HT := Lib.hid ht
      have HM := Lib.hid hm
      unfold fileV ptrV at d3
      generalize hc0 : L.bs.getD id 0 = c0 at d3
      have HC0 := Lib.hid hc0
      clear hgr hcs hidl ht hm hc0
      go_wp2_with fail
      generalize hw2 : wr.alloc (.cells #[.int .i64 kind, .string src, .string dst, .pointer (some ⟨c0, 0, none⟩)] 128) = w2
      have hsz := HB.out.size
      have htsz := HT.out.size
      have htwr := HT.out.below (B := w.heap.size) (by omega) (fun k hk => by omega)
      have hbw2 : Below w.heap.size w w2 := by rw [← hw2]; exact (HB.out.trans htwr).alloc (by omega) _
      have hblk2 : BlockIs w2 wr.heap.size #[.int .i64 kind, .string src, .string dst, .pointer (some ⟨c0, 0, none⟩)] 128 := by rw [← hw2]; exact BlockIs.new _ _ _
      have hbr2 : Below wr.heap.size wr w2 := by rw [← hw2]; exact (Below.refl _ wr).alloc (Nat.le_refl _) _
      have hzz := HZ.out
      have hlb : w.heap.size < w1.heap.size := by omega
      have hbox2 : w2.cell? ⟨w.heap.size, 0, none⟩ = some (.slice va ks.length vc) := (hbr2.cell (p := ⟨w.heap.size, 0, none⟩) (show w.heap.size < wr.heap.size from by omega)).trans ((HT.out.cell (p := ⟨w.heap.size, 0, none⟩) hlb (show ¬ w.heap.size = w.heap.size + 1 from by omega)).trans hbox)
      refine (HSAY.out k _ w2 (HV.out.below hbw2) hbox2 (by omega)).mono ?_
      rintro e w3 ⟨rfl, n, hw3⟩
      have hb23 : ∀ B, Below B w2 w3 := fun B => by rw [hw3]; exact ⟨rfl, rfl, rfl, Nat.le_refl _, fun _ _ => rfl⟩
      have hblk3 : BlockIs w3 wr.heap.size #[.int .i64 kind, .string src, .string dst, .pointer (some ⟨c0, 0, none⟩)] 128 := by rw [hw3]; exact hblk2
      have htr3 : Touch (· = w.heap.size + 1) w1 w3 := HT.out.trans (Touch.of_below (fun _ => False) (hbr2.trans (hb23 _))) (fun _ _ h => h.elim)
      have hm3 : ownsKV w3 Tryd.prog 9 (w.heap.size + 1) (kvMap (fileV L.bs) (D.leftAt ks k)) := ownsKV_block HM.out ((hbr2.trans (hb23 _)).block _ (ownsKV_lt HM.out))
      have HT3 := Lib.hid htr3
      have HBS := Lib.hid hblk3
      have e0 : w3.cell? ⟨wr.heap.size, 0, none⟩ = some (.int .i64 kind) := hblk3.cell 0
      have e1 : w3.cell? ⟨wr.heap.size, 1, none⟩ = some (.string src) := hblk3.cell 1
      have e2 : w3.cell? ⟨wr.heap.size, 2, none⟩ = some (.string dst) := hblk3.cell 2
      have e3 : w3.cell? ⟨wr.heap.size, 3, none⟩ = some (.pointer (some ⟨c0, 0, none⟩)) := hblk3.cell 3
      clear hbw2 hblk2 hbox2 hb23 hblk3 htr3 hw3 hw2 hbr2 htwr d0 d1 d2 d3
      go_wp2_with fail
      refine (place_any (sayI ks k) 2 w3 (sayI_ok HKB.out k) (by omega)).mono ?_
      rintro e w4 ⟨rfl, rfl⟩
      by_cases hp : sayI ks k % 2 = 0
      · have HE := Lib.hid (HSUCC.out.trans (leftStep_skip _ hp))
        rw [hp]
        clear hp
        go_wp2
        go_roundw
        case rel => exact ⟨k + 1, by omega, by go_num, HT3.out, by rw [HE.out]; exact hm3⟩
        case measure => simp [intOf]; omega
      · have HP := Lib.hid hp
        have hp1 : sayI ks k % 2 = 1 := by omega
        rw [hp1]
        clear hp hp1
        have hz0 := fun w => zero_ptr w
        have hssz : src.size ≤ maxLen := by have h80 : src.size ≤ 80 := HID.out.2.1; unfold maxLen; omega
        have hdsz : dst.size ≤ maxLen := by have h80 : dst.size ≤ 80 := HID.out.2.2; unfold maxLen; omega
        cases hg : kvGet (D.leftAt ks k) src with
        | none =>
          have hget : kvGet (kvMap (fileV L.bs) (D.leftAt ks k)) src = none := by rw [kvGet_map, hg]; rfl
          have HG := Lib.hid hg
          clear hg
          rcases (by omega : kind = 1 ∨ kind = 2 ∨ kind = 3 ∨ (kind ≠ 1 ∧ kind ≠ 2 ∧ kind ≠ 3)) with rfl | rfl | rfl | ⟨k1, k2, k3⟩
          · have HE := Lib.hid (HSUCC.out.trans (leftStep_put HP.out HG.out))
            have hll : (kvMap (fileV L.bs) (D.leftAt ks k)).length < 1099511627776 := by rw [kvMap_len]; have := D.leftAt_len ks k; have := H.out.ok.sln; omega
            go_wp2_with (first
              | (at_lookup; refine wpList_kvNone rfl _ _ 118 rfl Tryd.underlying9 Tryd.underlying118 (hz0 _) rfl hm3 rfl hssz hget ?_)
              | (at_mapUpdate; refine wpList_kvStore rfl _ _ _ 118 rfl Tryd.underlying9 Tryd.underlying118 rfl hm3 hll rfl hssz rfl ?_; intro w5 hm5 htu5)
              | go_in)
            go_roundw
            case rel =>
              refine ⟨k + 1, by omega, by go_num, HT3.out.trans (Touch.of_turned htu5) (fun _ _ h => h), ?_⟩
              rw [HE.out, ← kvPut_map]
              show ownsKV w5 _ _ _ (kvPut _ src (.pointer (some ⟨L.bs.getD id 0, 0, none⟩)))
              rw [HC0.out]; exact hm5
            case measure => simp [intOf]; omega
          · have HE := Lib.hid (HSUCC.out.trans (leftStep_none HG.out (by omega)))
            go_wp2_with (first | (at_lookup; refine wpList_kvNone rfl _ _ 118 rfl Tryd.underlying9 Tryd.underlying118 (hz0 _) rfl hm3 rfl hssz hget ?_) | go_in)
            go_roundw
            case rel => exact ⟨k + 1, by omega, by go_num, HT3.out, by rw [HE.out]; exact hm3⟩
            case measure => simp [intOf]; omega
          · have HE := Lib.hid (HSUCC.out.trans (leftStep_none HG.out (by omega)))
            go_wp2_with (first | (at_lookup; refine wpList_kvNone rfl _ _ 118 rfl Tryd.underlying9 Tryd.underlying118 (hz0 _) rfl hm3 rfl hssz hget ?_) | go_in)
            go_roundw
            case rel => exact ⟨k + 1, by omega, by go_num, HT3.out, by rw [HE.out]; exact hm3⟩
            case measure => simp [intOf]; omega
          · have HE := Lib.hid (HSUCC.out.trans (leftStep_none HG.out k1))
            go_wp2_with (first | (at_lookup; refine wpList_kvNone rfl _ _ 118 rfl Tryd.underlying9 Tryd.underlying118 (hz0 _) rfl hm3 rfl hssz hget ?_) | go_in)
            go_roundw
            case rel => exact ⟨k + 1, by omega, by go_num, HT3.out, by rw [HE.out]; exact hm3⟩
            case measure => simp [intOf]; omega
        | some j =>
          have hget : kvGet (kvMap (fileV L.bs) (D.leftAt ks k)) src = some (.pointer (some ⟨L.bs.getD j 0, 0, none⟩)) := by rw [kvGet_map, hg]; rfl
          have hjl : j < L.bs.length := by rw [H.out.len]; exact HLK.out.ids _ (kvGet_mem hg)
          have hil : id < L.bs.length := by rw [H.out.len]; exact HID.out.1
          have HG := Lib.hid hg
          clear hg
          by_cases hj : j = id
          · subst hj
            rw [HC0.out] at hget
            have hpe := file_same w3 c0
            clear hjl hil
            rcases (by omega : kind = 1 ∨ kind = 2 ∨ kind = 3 ∨ (kind ≠ 1 ∧ kind ≠ 2 ∧ kind ≠ 3)) with rfl | rfl | rfl | ⟨k1, k2, k3⟩
            · have HE := Lib.hid (HSUCC.out.trans (leftStep_kind HG.out (by omega) (by omega)))
              go_wp2_with (first | (at_lookup; refine wpList_kvFound rfl _ _ 118 rfl Tryd.underlying9 Tryd.underlying118 (hz0 _) rfl hm3 rfl hssz hget ?_) | go_in)
              go_roundw
              case rel => exact ⟨k + 1, by omega, by go_num, HT3.out, by rw [HE.out]; exact hm3⟩
              case measure => simp [intOf]; omega
            · have HE := Lib.hid (HSUCC.out.trans (leftStep_ren HP.out HG.out))
              have hll : (kvDel (kvMap (fileV L.bs) (D.leftAt ks k)) src).length < 1099511627776 := by have h9 := kvDel_len (kvMap (fileV L.bs) (D.leftAt ks k)) src; rw [kvMap_len] at h9; have := D.leftAt_len ks k; have := H.out.ok.sln; omega
              go_wp2_with (first
                | (at_lookup; refine wpList_kvFound rfl _ _ 118 rfl Tryd.underlying9 Tryd.underlying118 (hz0 _) rfl hm3 rfl hssz hget ?_)
                | (at_delete; refine wpList_kvDelete rfl _ _ 118 9 rfl Tryd.underlying9 Tryd.underlying118 rfl hm3 rfl hssz ?_; intro w5 hm5 htu5;
                    have ht5 := Lib.hid (Touch.of_turned htu5);
                    have hblk5 := HBS.out.keep (ht5.out.block _ HBS.out.lt (by omega));
                    have e15 : w5.cell? ⟨wr.heap.size, 1, none⟩ = some (.string src) := hblk5.cell 1;
                    have e25 : w5.cell? ⟨wr.heap.size, 2, none⟩ = some (.string dst) := hblk5.cell 2;
                    have e35 : w5.cell? ⟨wr.heap.size, 3, none⟩ = some (.pointer (some ⟨c0, 0, none⟩)) := hblk5.cell 3;
                    clear hblk5 htu5)
                | (at_mapUpdate; refine wpList_kvStore rfl _ _ _ 118 rfl Tryd.underlying9 Tryd.underlying118 rfl hm5 hll rfl hdsz rfl ?_; intro w6 hm6 htu6)
                | go_in)
              go_roundw
              case rel =>
                refine ⟨k + 1, by omega, by go_num, (HT3.out.trans ht5.out (fun _ _ h => h)).trans (Touch.of_turned htu6) (fun _ _ h => h), ?_⟩
                rw [HE.out, ← kvPut_map, ← kvDel_map]
                show ownsKV w6 _ _ _ (kvPut _ dst (.pointer (some ⟨L.bs.getD j 0, 0, none⟩)))
                rw [HC0.out]; exact hm6
              case measure => simp [intOf]; omega
            · have HE := Lib.hid (HSUCC.out.trans (leftStep_del HP.out HG.out))
              go_wp2_with (first
                | (at_lookup; refine wpList_kvFound rfl _ _ 118 rfl Tryd.underlying9 Tryd.underlying118 (hz0 _) rfl hm3 rfl hssz hget ?_)
                | (at_delete; refine wpList_kvDelete rfl _ _ 118 9 rfl Tryd.underlying9 Tryd.underlying118 rfl hm3 rfl hssz ?_; intro w5 hm5 htu5)
                | go_in)
              go_roundw
              case rel =>
                refine ⟨k + 1, by omega, by go_num, HT3.out.trans (Touch.of_turned htu5) (fun _ _ h => h), ?_⟩
                rw [HE.out, ← kvDel_map]; exact hm5
              case measure => simp [intOf]; omega
            · have HE := Lib.hid (HSUCC.out.trans (leftStep_kind HG.out k2 k3))
              go_wp2_with (first | (at_lookup; refine wpList_kvFound rfl _ _ 118 rfl Tryd.underlying9 Tryd.underlying118 (hz0 _) rfl hm3 rfl hssz hget ?_) | go_in)
              go_roundw
              case rel => exact ⟨k + 1, by omega, by go_num, HT3.out, by rw [HE.out]; exact hm3⟩
              case measure => simp [intOf]; omega
          · have hne : L.bs.getD j 0 ≠ c0 := fun e => hj (getD_inj (nd_bs H.out.nd) hjl hil (by rw [e, HC0.out]))
            have HE := Lib.hid (HSUCC.out.trans (leftStep_other (kind := kind) (dst := dst) HG.out hj))
            have hold : ∀ i, i < D.files.length → BlockIs w3 (L.bs.getD i 0) (flCells (D.flAt i)) 126 := fun i hi => by
              have h1 := H.out.fs i hi
              have h2 := h1.lt
              exact h1.keep ((HT3.out.block _ (by omega) (by omega)).trans (HB.out.block _ h2))
            have hpe := file_other (hold j (by rw [← H.out.len]; exact hjl)) (hold id (by rw [← H.out.len]; exact hil)) (by rw [HC0.out]; exact hne)
            rw [HC0.out] at hpe
            generalize L.bs.getD j 0 = c1 at hget hne hpe
            clear hjl hil hj hold
            rcases (by omega : kind = 1 ∨ kind = 2 ∨ kind = 3 ∨ (kind ≠ 1 ∧ kind ≠ 2 ∧ kind ≠ 3)) with rfl | rfl | rfl | ⟨k1, k2, k3⟩
            all_goals
              go_wp2_with (first | (at_lookup; refine wpList_kvFound rfl _ _ 118 rfl Tryd.underlying9 Tryd.underlying118 (hz0 _) rfl hm3 rfl hssz hget ?_) | go_in)
              go_roundw
              case rel => exact ⟨k + 1, by omega, by go_num, HT3.out, by rw [HE.out]; exact hm3⟩
              case measure => simp [intOf]; omega
    · obtain rfl : k = D.steps.length := by omega
      have hmm := @run_makeMap Tryd.prog
      have HT := Lib.hid ht
      have HM := Lib.hid hm
      clear ht hm
      have hwb := HB.out.size
      have htz := HT.out.size
      have hzz := HZ.out
      have hbxr : wr.cell? ⟨w.heap.size, 0, none⟩ = some (.slice va ks.length vc) := (HT.out.cell (p := ⟨w.heap.size, 0, none⟩) (show w.heap.size < w1.heap.size by omega) (show ¬ w.heap.size = w.heap.size + 1 by omega)).trans hbox
      have hbr : Below w.heap.size w wr := HB.out.trans (HT.out.below (by omega) (fun k hk => by omega))
      have HBR := Lib.hid hbr
      have hke := keys_any (w.heap.size + 1) (wr.alloc (.map #[] 0))
      have hll : (kvMap (fileV L.bs) (D.leftAt ks D.steps.length)).length ≤ 1000000 := by
        rw [kvMap_len]; have := D.leftAt_len ks D.steps.length; have := H.out.ok.sln; omega
      have hso := sorted_any (w.heap.size + 1) _ (wr.alloc (.map #[] 0)) (ownsKV_block HM.out (Below.heap_alloc _ _ _ (ownsKV_lt HM.out))) hll
      have hwz : (wr.alloc (.map #[] 0)).heap.size = wr.heap.size + 1 := World.size_alloc _ _
      rw [hwz] at hso
      have hnm := ownsKV_made wr Tryd.prog 9
      have HKE := Lib.hid hke
      have HSO := Lib.hid hso
      have HNM := Lib.hid hnm
      clear hke hso hnm hbr hbox HROW
      go_wp2_with fail
      refine HKE.out.mono ?_
      rintro e w5 ⟨rfl, rfl⟩
      go_wp2_with fail
      refine HSO.out.mono ?_
      rintro e w6 ⟨nv, rfl, hnv, hb6⟩
      rw [← hwz] at hb6
      have hb56 : Below wr.heap.size wr w6 := ((Below.refl _ wr).alloc (Nat.le_refl _) _).trans (((Below.refl _ (wr.alloc (.map #[] 0))).alloc (Nat.le_refl _) _ |>.trans hb6).mono (by simp))
      have hfm6 : w6.heap[wr.heap.size]? = (wr.alloc (.map #[] 0)).heap[wr.heap.size]? := (((Below.refl _ (wr.alloc (.map #[] 0))).alloc (Nat.le_refl _) _).trans hb6).block _ (by simp)
      have hnew : NewAt w6 w6 wr.heap.size D ks 0 [] := ⟨Touch.refl _ _, rfl, fun c hc => by simp at hc, List.nodup_nil, fun i hi => by omega, ownsKV_block HNM.out hfm6⟩
      have hz6 := (((Below.refl _ (wr.alloc (.map #[] 0))).alloc (Nat.le_refl _) (.cells #[.map (some (w.heap.size + 1))] 118)).trans hb6).size
      have hbw6 : Below w.heap.size w w6 := HBR.out.trans (hb56.mono (by omega))
      have hlm6 : ownsKV w6 Tryd.prog 9 (w.heap.size + 1) (kvMap (fileV L.bs) (D.left ks)) := ownsKV_block HM.out (hb56.block _ (ownsKV_lt HM.out))
      have hbx6 : w6.cell? ⟨w.heap.size, 0, none⟩ = some (.slice va ks.length vc) := (hb56.cell (p := ⟨w.heap.size, 0, none⟩) (show w.heap.size < wr.heap.size by omega)).trans hbxr
      have hnl : (kvNames (kvMap (fileV L.bs) (D.leftAt ks D.steps.length))) = D.leftNames ks := kvNames_map _ _
      rw [hnl] at hnv
      obtain ⟨na, nc, rfl, hnc⟩ := row_reads hnv
      have HNC := Lib.hid hnc
      have HNW := Lib.hid hnew
      have HB6 := Lib.hid hbw6
      have HL6 := Lib.hid hlm6
      have hfz : wr.heap.size < w6.heap.size := by simp at hz6; omega
      clear hnv hb6 hb56 hfm6 hnew hz6 hbw6 hlm6 hnl hnc HKE HSO HNM hmm hll
      have hfl : w.heap.size + 1 < wr.heap.size := by omega
      have hwl : w.heap.size < w6.heap.size := by omega
      generalize hfm : wr.heap.size = fm at HNW hfz HNC hfl ⊢
      go_wp2
      go_loopw [99] (fun i wq => ∃ (k : Nat) (newbs : List Nat), k ≤ (D.leftNames ks).length ∧ i = .int .i64 k ∧ NewAt w6 wq fm D ks k newbs) (fun i _ => (D.leftNames ks).length - (intOf i).toNat)
      case atStart => exact ⟨0, [], Nat.zero_le _, rfl, HNW.out⟩
      case round =>
        obtain ⟨k, newbs, hk, rfl, hna⟩ := hrel
        have HA := Lib.hid hna
        clear hna
        by_cases hlt : k < (D.leftNames ks).length
        · obtain ⟨ng, rfl, hng0, hngl, hncell⟩ := HNC.out k hlt
          have cn : wr.cell? ⟨ng, k, none⟩ = some (.string (D.leftNames ks)[k]) := (HA.out.touch.cell (p := ⟨ng, k, none⟩) hngl (show ¬ ng = fm by omega)).trans hncell
          obtain ⟨id, hmem, hget0⟩ := kvNames_get (H.out.ok.leftAt ks D.steps.length).apart hlt
          have hget : kvGet (kvMap (fileV L.bs) (D.left ks)) (D.leftNames ks)[k] = some (.pointer (some ⟨L.bs.getD id 0, 0, none⟩)) := by
            rw [kvGet_map, show kvGet (D.left ks) (D.leftNames ks)[k] = some id from hget0]; rfl
          have hid : id < D.files.length := (H.out.ok.leftAt ks D.steps.length).ids _ hmem
          have hnsz : (D.leftNames ks)[k].size ≤ 80 := (H.out.ok.leftAt ks D.steps.length).nam _ hmem
          have hnf : (D.leftNames ks).getD k ByteArray.empty = (D.leftNames ks)[k] := by rw [List.getD, List.getElem?_eq_getElem hlt]; rfl
          have hfl : D.newFl ks k = ⟨(D.flAt id).data.extract 0 (D.keepN ks k id), D.keepN ks k id⟩ := by
            unfold Dk.newFl Dk.leftFile
            rw [hnf, show kvGet (D.left ks) (D.leftNames ks)[k] = some id from hget0]; rfl
          have HSTEP := Lib.hid fun n0 w' => HA.out.step (w' := w') (n0 := n0) hfz
          rw [hnf, hfl] at HSTEP
          have hwz := HB6.out.size
          have hlmr : ownsKV wr Tryd.prog 9 (w.heap.size + 1) (kvMap (fileV L.bs) (D.left ks)) := ownsKV_block HL6.out (HA.out.touch.block _ (ownsKV_lt HL6.out) (by omega))
          have hold : ∀ c, c < w.heap.size → wr.heap[c]? = w.heap[c]? := fun c hc => (HA.out.touch.block _ (by omega) (by omega)).trans (HB6.out.block _ hc)
          have hblkf := (H.out.fs id hid).keep (hold _ (H.out.fs id hid).lt)
          have d0 : wr.cell? ⟨L.bs.getD id 0, 0, none⟩ = some (.string (D.flAt id).data) := hblkf.cell 0
          have d1 : wr.cell? ⟨L.bs.getD id 0, 1, none⟩ = some (.int .i64 (D.flAt id).safe) := hblkf.cell 1
          have c3r : wr.cell? ⟨b, 3, none⟩ = some (.slice a D.steps.length c) := (World.cell?_of_block (w := w) (a := ⟨b, 3, none⟩) (hold b hbl)).trans c3w.out
          have hbxr : wr.cell? ⟨w.heap.size, 0, none⟩ = some (.slice va ks.length vc) := (HA.out.touch.cell (p := ⟨w.heap.size, 0, none⟩) hwl (show ¬ w.heap.size = fm by omega)).trans hbx6
          have hbwr : Below w.heap.size w wr := HB6.out.trans (HA.out.touch.below (by omega) (fun k hk => by omega))
          have HBW := Lib.hid hbwr
          have hflz := flAt_le H.out.ok id
          obtain ⟨hz1, hz2⟩ := hflz
          have hmp := HA.out.mp
          generalize L.bs.getD id 0 = cid at d0 d1 hget
          have hkn : D.keepN ks k id = (D.flAt id).safe + (sayI ks (D.steps.length + k) % (((D.flAt id).data.size - (D.flAt id).safe + 1 : Nat) : Int)).toNat := rfl
          generalize D.keepN ks k id = kn at hkn HSTEP
          generalize (D.flAt id).data = fdata at *
          generalize (D.flAt id).safe = fsafe at *
          generalize (D.leftNames ks)[k] = name at *
          have HKN := Lib.hid hkn
          clear hkn hold hblkf hbwr hmem hget0 hnf hfl hncell
          have hz0 := fun w => zero_ptr w
          have hssz : name.size ≤ maxLen := by unfold maxLen; omega
          go_upto_region 21 with (first
            | (at_lookup; refine wpList_kvThere rfl _ _ 118 rfl Tryd.underlying9 Tryd.underlying118 (hz0 _) rfl hlmr rfl hssz hget ?_)
            | go_in)
          have hsv := sayI_ok HKB.out (D.steps.length + k)
          have hnl : (D.leftNames ks).length ≤ 800000 := by
            show (kvNames (D.left ks)).length ≤ 800000
            rw [kvNames_len]; have := D.leftAt_len ks D.steps.length; have := H.out.ok.sln; show (D.leftAt ks D.steps.length).length ≤ _; omega
          have HSR := Lib.hid fun n => HSAY.out (D.steps.length + k) w.heap.size (wr.drewN n) (HV.out.below (HBW.out.trans ⟨rfl, rfl, rfl, Nat.le_refl _, fun _ _ => rfl⟩)) hbxr (by omega)
          rw [Int.natCast_add] at HSR
          generalize sayI ks (D.steps.length + k) = sv at *
          have hd1 : (0 : Int) < (fdata.size : Int) - (fsafe : Int) + 1 ∧ (fdata.size : Int) - (fsafe : Int) + 1 ≤ 4611686018427387904 := by omega
          have HPR := Lib.hid fun n => place_any sv ((fdata.size : Int) - (fsafe : Int) + 1) (wr.drewN n) hsv hd1 |>.mono fun e w' ⟨h1, h2⟩ => (⟨h1, h2.symm⟩ : _ ∧ w' = wr.drewN n)
          have hpv1 := Int.emod_nonneg sv (b := (fdata.size : Int) - (fsafe : Int) + 1) (by omega)
          have hpv2 := Int.emod_lt_of_pos sv hd1.1
          have hknn : (kn : Int) = (fsafe : Int) + sv % ((fdata.size : Int) - (fsafe : Int) + 1) := by
            rw [HKN.out]
            have : ((fdata.size - fsafe + 1 : Nat) : Int) = (fdata.size : Int) - (fsafe : Int) + 1 := by omega
            rw [this]; omega
          generalize sv % ((fdata.size : Int) - (fsafe : Int) + 1) = pv at *
          have hkn1 : (kn : Int) ≤ (fdata.size : Int) := by omega
          have hkn2 : (kn : Int) ≤ 1073741824 := by omega
          have wr1 : IntKind.i64.wrap ((D.steps.length : Int) + (k : Int)) = (D.steps.length : Int) + (k : Int) := IntWalk.i64_in _ (by omega)
          have wr2 : IntKind.i64.wrap ((fdata.size : Int) - (fsafe : Int)) = (fdata.size : Int) - (fsafe : Int) := IntWalk.i64_in _ (by omega)
          have wr3 : IntKind.i64.wrap ((fdata.size : Int) - (fsafe : Int) + 1) = (fdata.size : Int) - (fsafe : Int) + 1 := IntWalk.i64_in _ (by omega)
          have wr4 : IntKind.i64.wrap ((fsafe : Int) + pv) = (kn : Int) := by rw [IntWalk.i64_in _ (by omega)]; exact hknn.symm
          have HQ := Lib.hid (And.intro hknn (And.intro hpv1 hpv2))
          have HKK := Lib.hid (And.intro hkn1 hkn2)
          clear hknn hpv1 hpv2 hsv hd1 hkn1 hkn2 HKN
          go_quiet (first
            | (go_at_call 80; exact Calls.quiet_of (HSR.out _))
            | (go_at_call 81; exact Calls.quiet_of_same (HPR.out _)))
          have hzr : ∀ o, (((wr.drewN nq).alloc o).heap[fm]? = wr.heap[fm]?) := fun o => Below.heap_alloc _ _ _ (show fm < wr.heap.size from ownsKV_lt hmp)
          have HMP := Lib.hid fun o => ownsKV_block (w' := (wr.drewN nq).alloc o) hmp (hzr o)
          have hll : (kvMap (fileV newbs) (D.newFolder ks k)).length < 1099511627776 := by rw [kvMap_len]; have := D.newFolder_len ks k; omega
          have ck1 : (kn : Int) ≤ (fdata.size : Int) := HKK.out.1
          clear hzr hmp wr1 wr2 wr3 wr4
          go_wp2_with (first
            | (at_mapUpdate; refine wpList_kvStore rfl _ _ _ 118 rfl Tryd.underlying9 Tryd.underlying118 rfl (HMP.out _) hll rfl hssz rfl ?_; intro w7 hm7 htu7)
            | go_in)
          go_roundw
          case rel =>
            have ht7 := Touch.of_turned htu7
            have hfr : fm < wr.heap.size := by have := HA.out.touch.size; omega
            refine ⟨k + 1, newbs ++ [wr.heap.size], by omega, by go_num, HSTEP.out wr.heap.size w7 (Nat.le_refl _) ?_ ?_ hm7⟩
            · exact (Touch.of_below (· = fm) ((⟨rfl, rfl, rfl, Nat.le_refl _, fun _ _ => rfl⟩ : Below wr.heap.size wr (wr.drewN nq)).alloc (Nat.le_refl _) _)).trans ht7 (fun _ _ h => h)
            · refine (BlockIs.new (wr.drewN nq) _ _).keep (ht7.block _ ?_ ?_)
              · show wr.heap.size < _; rw [World.size_alloc]; exact Nat.lt_succ_self _
              · show ¬ wr.heap.size = fm; omega
          case measure => simp [intOf]; omega
        · obtain rfl : k = (D.leftNames ks).length := by omega
          have hclo := clone_any fm _ wr HA.out.mp
          have HCLO := Lib.hid hclo
          clear hclo hlt hk
          have hblr := H.out.blk.keep ((HA.out.touch.block b (by have := HB6.out.size; omega) (by omega)).trans (HB6.out.block b hbl))
          have HBL := Lib.hid hblr
          clear hblr
          go_wp2_with fail
          refine HCLO.out.mono ?_
          rintro e w8 ⟨rfl, hcl, hb8, hz8⟩
          have hbl8 := HBL.out.keep (hb8.block b HBL.out.lt)
          have f1 : w8.frozen? ⟨b, 1, none⟩ = false := hbl8.free 1
          have f2 : w8.frozen? ⟨b, 2, none⟩ = false := hbl8.free 2
          have f3 : w8.frozen? ⟨b, 3, none⟩ = false := hbl8.free 3
          have f4 : w8.frozen? ⟨b, 4, none⟩ = false := hbl8.free 4
          have f5 : w8.frozen? ⟨b, 5, none⟩ = false := hbl8.free 5
          have k1 : w8.cell? ⟨b, 1, none⟩ = some (.map (some L.bm)) := hbl8.cell 1
          have k2 : w8.cell? ⟨b, 2, none⟩ = some (.map (some L.sm)) := hbl8.cell 2
          have k3 : w8.cell? ⟨b, 3, none⟩ = some L.v := hbl8.cell 3
          have k4 : w8.cell? ⟨b, 4, none⟩ = some (.int .i64 D.arm) := hbl8.cell 4
          have k5 : w8.cell? ⟨b, 5, none⟩ = some (.bool D.dead) := hbl8.cell 5
          have HCL := Lib.hid hcl
          have HB8 := Lib.hid hb8
          have HBB := Lib.hid hbl8
          clear hcl hb8 hz8 hbl8
          go_wp2
          go_end0
          refine ⟨rfl, crash_fin H.out HB6.out hfz (by omega) HA.out HCL.out HB8.out ?_ ?_⟩
          rotate_left
          · exact ((((HBB.out.set 1 _).set 2 _).set 3 _).set 4 _).set 5 _
          · exact ((((Touch.setc w8 b 1 _).trans (Touch.setc _ b 2 _) (fun _ _ h => h)).trans (Touch.setc _ b 3 _) (fun _ _ h => h)).trans (Touch.setc _ b 4 _) (fun _ _ h => h)).trans (Touch.setc _ b 5 _) (fun _ _ h => h)
end Go.Proofs.YtaoejgnfoecpfaaDoor
namespace Go.Proofs.YtaoejgnfoecpfaaDoor
set_option linter.unusedVariables false
set_option linter.unusedSimpArgs false
set_option linter.unusedSectionVars false
open Go.RowKit Go.Maps

set_option maxHeartbeats 400000 in
set_option maxRecDepth 100000 in
theorem list_dead (b : Nat) (D : Dk) (L : Lay) (w : World) (h : DiskAt w b D L) (hd : D.dead = true) :
    Calls Tryd.prog 38 #[.pointer (some ⟨b, 0, none⟩)] w fun e w' => e = .returned (.tuple #[.slice none 0 0, .int .i64 10]) ∧ w = w' := by
  have c5 : w.cell? ⟨b, 5, none⟩ = some (.bool D.dead) := h.blk.cell 5
  rw [hd] at c5
  clear h hd
  go_enter Tryd.func38, Tryd.ntmps38
  go_wp2
  go_ret2
  exact ⟨rfl, rfl⟩

set_option maxHeartbeats 400000 in
set_option maxRecDepth 100000 in
theorem list_any (b : Nat) (D : Dk) (L : Lay) (w : World) (h : DiskAt w b D L) (hd : D.dead = false) (hl : D.folder.length ≤ 1000000) :
    Calls Tryd.prog 38 #[.pointer (some ⟨b, 0, none⟩)] w fun e w' => ∃ v, e = .returned (.tuple #[v, .int .i64 0]) ∧ w'.ownsRow w.heap.size 9 1 v (kvNames D.folder).length ((kvNames D.folder).map .string) ∧ Below w.heap.size w w' := by
  have c5 : w.cell? ⟨b, 5, none⟩ = some (.bool D.dead) := h.blk.cell 5
  have c1 : w.cell? ⟨b, 1, none⟩ = some (.map (some L.bm)) := h.blk.cell 1
  rw [hd] at c5
  have HK := Lib.hid (keys_any L.bm w)
  have HS := Lib.hid (sorted_any L.bm _ w h.mp (by rw [kvMap_len]; exact hl))
  rw [kvNames_map] at HS
  clear h hd
  go_enter Tryd.func38, Tryd.ntmps38
  go_wp2_with fail
  refine HK.out.mono ?_
  rintro e w1 ⟨rfl, rfl⟩
  go_wp2_with fail
  refine HS.out.mono ?_
  rintro e w2 ⟨v, rfl, ho, hb⟩
  have HO := Lib.hid ho
  have HB := Lib.hid (((Below.refl w.heap.size w).alloc (Nat.le_refl _) (.cells #[.map (some L.bm)] 118)).trans hb)
  clear ho hb
  go_wp2
  go_ret2
  exact ⟨v, rfl, HO.out, HB.out⟩
end Go.Proofs.YtaoejgnfoecpfaaDoor
namespace Go.Proofs.YtaoejgnfoecpfaaDoor
set_option linter.unusedVariables false
set_option linter.unusedSimpArgs false
set_option linter.unusedSectionVars false
open Go.RowKit Go.Maps

theorem sum_perm {l m : List Nat} (h : l.Perm m) : l.sum = m.sum := by
  induction h with
  | nil => rfl
  | cons x _ ih => simp [ih]
  | swap x y l => simp; omega
  | trans _ _ h1 h2 => exact h1.trans h2
theorem kvSum_perm {α : Type} (f : α → Nat) {l m : List (ByteArray × α)} (h : l.Perm m) : kvSum f l = kvSum f m := sum_perm (h.map _)
theorem kvSum_put {α : Type} (f : α → Nat) (l : List (ByteArray × α)) (k : ByteArray) (v : α) : kvSum f (kvPut l k v) = f v + kvSum f (kvDel l k) := by
  rw [kvSum_perm f (kvPut_perm l k v)]; simp [kvSum]
theorem kvGet_none_ne {α : Type} {l : List (ByteArray × α)} {k : ByteArray} (h : kvGet l k = none) : ∀ p ∈ l, p.1 ≠ k := by
  intro p hp e
  unfold kvGet at h
  rw [Option.map_eq_none_iff, List.find?_eq_none] at h
  exact h p hp (by simp [e])
theorem kvGet_none_of {α : Type} {l : List (ByteArray × α)} {k : ByteArray} (h : ∀ p ∈ l, p.1 ≠ k) : kvGet l k = none := by
  unfold kvGet
  rw [Option.map_eq_none_iff, List.find?_eq_none]
  intro p hp; simpa using h p hp
theorem kvSum_congr {α : Type} {f g : α → Nat} {l : List (ByteArray × α)} (h : ∀ p ∈ l, f p.2 = g p.2) : kvSum f l = kvSum g l := by
  unfold kvSum; rw [List.map_congr_left h]
/-- what a new file adds -/
theorem used_put {D : Dk} (h : DkOk D) {name : ByteArray} (hg : kvGet D.folder name = none) (data : ByteArray) : (D.put name data).used = D.used + data.size := by
  unfold Dk.put
  rw [hg]
  show kvSum (fun i => ((D.files ++ [(⟨data, 0⟩ : Fl)]).getD i ⟨ByteArray.empty, 0⟩).data.size) (kvPut D.folder name D.files.length) = _
  rw [kvSum_put, kvDel_noop (kvGet_none_ne hg), kvSum_congr (g := fun i => (D.flAt i).data.size)]
  · simp [List.getD, Dk.used, Nat.add_comm]
  · intro p hp
    have := h.fol p hp
    simp [List.getD, Dk.flAt, List.getElem?_append_left this]

/-- a file that is safe whole is left whole -/
theorem keepN_safe (D : Dk) (ks : List Int) (i id : Nat) (h : (D.flAt id).safe = (D.flAt id).data.size) : D.keepN ks i id = (D.flAt id).data.size := by
  unfold Dk.keepN
  rw [h, Nat.sub_self]
  have := Int.emod_one (sayI ks (D.steps.length + i))
  rw [show ((0 + 1 : Nat) : Int) = 1 from rfl, this]; rfl
theorem extract_all (s : ByteArray) : s.extract 0 s.size = s := by
  apply ByteArray.ext
  simp
theorem leftFile_safe (D : Dk) (ks : List Int) (i id : Nat) (name : ByteArray) (hg : kvGet (D.left ks) name = some id) (h : (D.flAt id).safe = (D.flAt id).data.size) : D.leftFile ks i name = ⟨(D.flAt id).data, (D.flAt id).data.size⟩ := by
  unfold Dk.leftFile
  rw [hg]
  show (⟨(D.flAt id).data.extract 0 (D.keepN ks i id), D.keepN ks i id⟩ : Fl) = _
  rw [keepN_safe D ks i id h, extract_all]
theorem kvPut_get {α : Type} (l : List (ByteArray × α)) (k : ByteArray) (v : α) (ha : kvApart l) : kvGet (kvPut l k v) k = some v :=
  kvGet_of_mem (kvApart_put k v ha) ((kvPut_perm l k v).mem_iff.2 (by simp))
theorem kvPut_get_other {α : Type} (l : List (ByteArray × α)) (k q : ByteArray) (v u : α) (ha : kvApart l) (hq : k ≠ q) (hg : kvGet l k = some u) : kvGet (kvPut l q v) k = some u :=
  kvGet_of_mem (kvApart_put q v ha) ((kvPut_perm l q v).mem_iff.2 (List.mem_cons_of_mem _ (List.mem_filter.2 ⟨kvGet_mem hg, by simpa using hq⟩)))
/-- the new folder has each name that is left, with its place -/
theorem newFolder_get (D : Dk) (ks : List Int) (hn : (D.leftNames ks).Nodup) (k : Nat) (hk : k ≤ (D.leftNames ks).length) : ∀ i (h : i < k), kvGet (D.newFolder ks k) ((D.leftNames ks)[i]'(by omega)) = some i := by
  induction k with
  | zero => intro i h; omega
  | succ k ih =>
    intro i h
    unfold Dk.newFolder
    have e : (D.leftNames ks).getD k ByteArray.empty = (D.leftNames ks)[k]'(by omega) := by rw [List.getD, List.getElem?_eq_getElem (by omega)]; rfl
    rw [e]
    by_cases hi : i = k
    · subst hi
      exact kvPut_get _ _ _ (newFolder_apart D ks i)
    · refine kvPut_get_other _ _ _ _ _ (newFolder_apart D ks k) ?_ (ih (by omega) i (by omega))
      intro e2
      exact List.pairwise_iff_getElem.1 hn i k (by omega) (by omega) (by omega) e2
theorem kvNames_has {α : Type} {l : List (ByteArray × α)} {s : ByteArray} {v : α} (h : (s, v) ∈ l) : s ∈ kvNames l := by
  unfold kvNames
  refine List.mem_map.2 ⟨s.data.toList, (List.mergeSort_perm _ _).mem_iff.2 (List.mem_map.2 ⟨_, h, rfl⟩), ?_⟩
  exact ByteArray.ext (by simp [kvNames.strM])
/-- what is read behind a crash -/
theorem crash_read (D : Dk) (ks : List Int) (name : ByteArray) (id : Nat) (ha : kvApart (D.left ks)) (hg : kvGet (D.left ks) name = some id) :
    ∃ i, i < (D.leftNames ks).length ∧ (D.leftNames ks).getD i ByteArray.empty = name ∧ kvGet (D.crash ks).folder name = some i ∧ (D.crash ks).read name = ((D.flAt id).data.extract 0 (D.keepN ks i id), 0) ∧ D.leftFile ks i name = ⟨(D.flAt id).data.extract 0 (D.keepN ks i id), D.keepN ks i id⟩ := by
  have hm : name ∈ D.leftNames ks := kvNames_has (kvGet_mem hg)
  obtain ⟨i, hi, e⟩ := List.getElem_of_mem hm
  have hf := newFolder_get D ks (kvNames_nodup ha) _ (Nat.le_refl _) i hi
  rw [e] at hf
  have e2 : (D.leftNames ks).getD i ByteArray.empty = name := by rw [List.getD, List.getElem?_eq_getElem hi]; exact e
  have hl : D.leftFile ks i name = ⟨(D.flAt id).data.extract 0 (D.keepN ks i id), D.keepN ks i id⟩ := by unfold Dk.leftFile; rw [hg]; rfl
  refine ⟨i, hi, e2, hf, ?_, hl⟩
  unfold Dk.read
  have hd : (D.crash ks).dead = false := rfl
  rw [hd]
  have hf' : kvGet (D.crash ks).folder name = some i := hf
  rw [if_neg (by simp), hf']
  show (((D.crash ks).flAt i).data, (0 : Int)) = _
  rw [crash_flAt D ks i hi]
  unfold Dk.newFl
  rw [e2, hl]

/-- a file that was safe whole is read whole behind a crash -/
theorem crash_whole (D : Dk) (ks : List Int) (name : ByteArray) (id : Nat) (ha : kvApart (D.left ks)) (hg : kvGet (D.left ks) name = some id) (h : (D.flAt id).safe = (D.flAt id).data.size) :
    (D.crash ks).read name = ((D.flAt id).data, 0) ∧ (D.flAt id).data.size ≤ (D.crash ks).used := by
  obtain ⟨i, hi, e, hf, hr, hl⟩ := crash_read D ks name id ha hg
  rw [keepN_safe D ks i id h, extract_all] at hr hl
  refine ⟨hr, ?_⟩
  have hu := used_ge hf (newFolder_apart D ks _)
  rw [crash_flAt D ks i hi] at hu
  unfold Dk.newFl at hu
  rw [e, hl] at hu
  exact hu
theorem left_names {D : Dk} (n : ByteArray) (h1 : ∀ p ∈ D.sure, p.1 ≠ n) (h2 : ∀ s ∈ D.steps, s.src ≠ n ∧ s.dst ≠ n) (ks : List Int) : ∀ j, ∀ p ∈ D.leftAt ks j, p.1 ≠ n := by
  intro j
  induction j with
  | zero => exact h1
  | succ j ih =>
    unfold Dk.leftAt
    split
    · exact ih
    · next s hs =>
      have hss := h2 s (List.mem_of_getElem? hs)
      intro p hp
      unfold leftStep at hp
      split at hp
      · exact ih p hp
      · split at hp
        · rcases kvPut_mem hp with rfl | hp
          · exact hss.1
          · exact ih p hp
        · split at hp
          · rcases kvPut_mem hp with rfl | hp
            · exact hss.2
            · exact ih p (kvDel_mem hp)
          · split at hp
            · exact ih p (kvDel_mem hp)
            · exact ih p hp
theorem newFolder_names (D : Dk) (ks : List Int) (j : Nat) (hj : j ≤ (D.leftNames ks).length) : ∀ p ∈ D.newFolder ks j, p.1 ∈ D.leftNames ks := by
  induction j with
  | zero => intro p hp; simp [Dk.newFolder] at hp
  | succ j ih =>
    intro p hp
    unfold Dk.newFolder at hp
    rcases kvPut_mem hp with rfl | hp
    · rw [List.getD, List.getElem?_eq_getElem (by omega)]
      exact List.getElem_mem _
    · exact ih (by omega) p hp
end Go.Proofs.YtaoejgnfoecpfaaDoor
namespace Go.Proofs.YtaoejgnfoecpfaaDoor
set_option linter.unusedVariables false
set_option linter.unusedSimpArgs false
set_option linter.unusedSectionVars false
open Go.RowKit Go.Maps

def fnm (i : Nat) : ByteArray := ⟨#[102, UInt8.ofNat (97 + i)]⟩
def nmG : ByteArray := ⟨#[103]⟩
def nmH : ByteArray := ⟨#[104]⟩
theorem fnm_ok : ∀ i, i < 26 → dkName (fnm i) = true := by decide +kernel
theorem fnm_lt : ∀ i, i < 26 → ∀ j, j < i → fnm j ≠ fnm i := by decide +kernel
theorem fnm_ne {i j : Nat} (hi : i < 26) (hj : j < 26) (h : i ≠ j) : fnm i ≠ fnm j := by
  rcases Nat.lt_or_gt_of_ne h with h | h
  · exact fnm_lt j hj i h
  · exact fun e => fnm_lt i hi j h e.symm
theorem fnm_gh : ∀ i, i < 26 → fnm i ≠ nmG ∧ fnm i ≠ nmH := by decide +kernel
theorem alive_self {D : Dk} (ar : D.arm = -1) (dd : D.dead = false) : D.alive = D := by
  obtain ⟨r, f, fo, su, st, a, d⟩ := D
  simp only at ar dd
  subst ar dd
  rfl
/-- the folder's names are those of so many items' files, each whole and safe -/
structure HasF (L : List Itm) (k : Nat) (fo : List (ByteArray × Nat)) (D : Dk) : Prop where
  get : ∀ i (h : i < L.length), i < k → L[i].kind = 2 → ∃ id, kvGet fo (fnm i) = some id ∧ id < D.files.length ∧ D.flAt id = ⟨L[i].data, L[i].data.size⟩
  nms : ∀ p ∈ fo, ∃ i, ∃ h : i < L.length, i < k ∧ L[i].kind = 2 ∧ p.1 = fnm i
structure F1 (L : List Itm) (k : Nat) (D : Dk) : Prop where
  ar : D.arm = -1
  dd : D.dead = false
  rm : D.room = 1048576
  fl : D.files.length ≤ k
  st : D.steps.length ≤ k
  us : D.used ≤ k * 32768
  has : HasF L k D.folder D
theorem F1.zero (L : List Itm) : F1 L 0 (dkNew 1048576) where
  ar := rfl
  dd := rfl
  rm := rfl
  fl := Nat.zero_le _
  st := Nat.zero_le _
  us := by
    have : (dkNew 1048576).used = 0 := rfl
    omega
  has := ⟨fun i _ h => absurd h (Nat.not_lt_zero i), fun p hp => by cases hp⟩
theorem F1.skip {L : List Itm} {k : Nat} {D : Dk} (h : F1 L k D) (hk : k < L.length) (hn : L[k].kind ≠ 2) : F1 L (k + 1) D :=
  ⟨h.ar, h.dd, h.rm, by have := h.fl; omega, by have := h.st; omega, Nat.le_trans h.us (Nat.mul_le_mul_right _ (Nat.le_succ k)),
    ⟨fun i hi hik h2 => h.has.get i hi (by
      rcases Nat.lt_or_ge i k with h1 | h1
      · exact h1
      · obtain rfl : i = k := by omega
        exact absurd h2 hn) h2, fun p hp => by
      obtain ⟨i, hi, h1, h2, h3⟩ := h.has.nms p hp
      exact ⟨i, hi, by omega, h2, h3⟩⟩⟩
theorem F1.none {L : List Itm} {k : Nat} {D : Dk} (h : F1 L k D) (h20 : L.length ≤ 20) (hk : k < 26) : kvGet D.folder (fnm k) = none := by
  refine kvGet_none_of fun p hp e => ?_
  obtain ⟨i, hi, h1, _, h3⟩ := h.has.nms p hp
  exact fnm_ne (by omega) hk (by omega) (h3.symm.trans e)
theorem F1.app {L : List Itm} {k : Nat} {D : Dk} (h : F1 L k D) (h20 : L.length ≤ 20) (hk : k < L.length) (hd : L[k].data.size ≤ 32768) : D.append (fnm k) L[k].data = (D.put (fnm k) L[k].data, 0) := by
  have hu := h.us
  have hr := h.rm
  unfold Dk.append
  rw [alive_self h.ar h.dd, h.dd, if_neg (by simp), fnm_ok k (by omega), if_neg (by simp), if_neg (by omega)]
/-- what is there when a file is appended and synced -/
def Dk.add (D : Dk) (name data : ByteArray) : Dk := { D with files := D.files ++ [⟨data, data.size⟩], folder := kvPut D.folder name D.files.length, steps := D.steps ++ [⟨1, name, name, D.files.length⟩] }
theorem F1.syn {L : List Itm} {k : Nat} {D : Dk} (h : F1 L k D) (ok : DkOk D) (h20 : L.length ≤ 20) (hk : k < L.length) : (D.put (fnm k) L[k].data).sync (fnm k) = (D.add (fnm k) L[k].data, 0) := by
  have hg := h.none h20 (by omega)
  have e : D.put (fnm k) L[k].data = { D with files := D.files ++ [⟨L[k].data, 0⟩], folder := kvPut D.folder (fnm k) D.files.length, steps := D.steps ++ [⟨1, fnm k, fnm k, D.files.length⟩] } := by
    unfold Dk.put
    rw [hg]
  have hg2 : kvGet (D.put (fnm k) L[k].data).folder (fnm k) = some D.files.length := by
    rw [e]
    exact kvPut_get _ _ _ ok.fap
  have hal : (D.put (fnm k) L[k].data).alive = D.put (fnm k) L[k].data := alive_self (by rw [e]; exact h.ar) (by rw [e]; exact h.dd)
  unfold Dk.sync
  rw [hal, hg2, if_neg (by rw [e]; simp [h.dd])]
  simp only
  rw [e]
  have hf : ({ D with files := D.files ++ [⟨L[k].data, 0⟩], folder := kvPut D.folder (fnm k) D.files.length, steps := D.steps ++ [⟨1, fnm k, fnm k, D.files.length⟩] } : Dk).flAt D.files.length = ⟨L[k].data, 0⟩ := by
    simp [Dk.flAt, List.getD]
  rw [hf]
  unfold Dk.add
  simp
theorem F1.add {L : List Itm} {k : Nat} {D : Dk} (h : F1 L k D) (ok : DkOk D) (h20 : L.length ≤ 20) (hk : k < L.length) (hkd : L[k].kind = 2) (hd : L[k].data.size ≤ 32768) : F1 L (k + 1) (D.add (fnm k) L[k].data) := by
  have hg := h.none h20 (show k < 26 by omega)
  have hfl := h.fl
  have hst := h.st
  have hus := h.us
  have hat : ∀ id, id < D.files.length → (D.add (fnm k) L[k].data).flAt id = D.flAt id := fun id hid => by
    simp [Dk.add, Dk.flAt, List.getD, List.getElem?_append_left hid]
  have hat2 : (D.add (fnm k) L[k].data).flAt D.files.length = ⟨L[k].data, L[k].data.size⟩ := by
    simp [Dk.add, Dk.flAt, List.getD]
  refine ⟨h.ar, h.dd, h.rm, by simp [Dk.add]; omega, by simp [Dk.add]; omega, ?_, ⟨fun i hi hik h2 => ?_, fun p hp => ?_⟩⟩
  · have hu : (D.add (fnm k) L[k].data).used = D.used + L[k].data.size := by
      have e : (D.add (fnm k) L[k].data).used = kvSum (fun i => ((D.add (fnm k) L[k].data).flAt i).data.size) (kvPut D.folder (fnm k) D.files.length) := rfl
      rw [e, kvSum_put, kvDel_noop (kvGet_none_ne hg), hat2, kvSum_congr (g := fun i => (D.flAt i).data.size) fun p hp => by rw [hat _ (ok.fol p hp)]]
      simp [Dk.used, Nat.add_comm]
    rw [hu, Nat.succ_mul]
    exact Nat.add_le_add hus hd
  · by_cases hik2 : i = k
    · subst hik2
      exact ⟨D.files.length, kvPut_get _ _ _ ok.fap, by simp [Dk.add], hat2⟩
    · obtain ⟨id, h3, h4, h5⟩ := h.has.get i hi (by omega) h2
      exact ⟨id, kvPut_get_other _ _ _ _ _ ok.fap (fnm_ne (by omega) (by omega) hik2) h3, by simp [Dk.add]; omega, by rw [hat id h4]; exact h5⟩
  · rcases kvPut_mem hp with rfl | hp
    · exact ⟨k, hk, by omega, hkd, rfl⟩
    · obtain ⟨i, hi, h1, h2, h3⟩ := h.has.nms p hp
      exact ⟨i, hi, by omega, h2, h3⟩
end Go.Proofs.YtaoejgnfoecpfaaDoor
namespace Go.Proofs.YtaoejgnfoecpfaaDoor
set_option linter.unusedVariables false
set_option linter.unusedSimpArgs false
set_option linter.unusedSectionVars false
open Go.RowKit Go.Maps

theorem gh_ok : dkName nmG = true ∧ dkName nmH = true ∧ nmG ≠ nmH := by decide +kernel
theorem kvSum_del_le {α : Type} (f : α → Nat) (l : List (ByteArray × α)) (k : ByteArray) : kvSum f (kvDel l k) ≤ kvSum f l := by
  unfold kvSum kvDel
  induction l with
  | nil => exact Nat.le_refl _
  | cons x r ih =>
    rw [List.filter_cons]
    split
    · simp only [List.map_cons, List.sum_cons]; omega
    · simp only [List.map_cons, List.sum_cons]; omega
theorem kvDel_self {α : Type} (l : List (ByteArray × α)) (k : ByteArray) : kvGet (kvDel l k) k = none := by
  refine kvGet_none_of fun p hp => ?_
  have := (List.mem_filter.1 hp).2
  simpa using this
structure F2 (L : List Itm) (j : Nat) (D : Dk) : Prop where
  ar : D.arm = -1
  dd : D.dead = false
  rm : D.room = 1048576
  fl : D.files.length ≤ 20 + j
  st : D.steps.length ≤ 2 * j
  us : D.used ≤ 655360 + j * 100
  sur : HasF L L.length D.sure D
  stp : ∀ s ∈ D.steps, (s.src = nmG ∨ s.src = nmH) ∧ (s.dst = nmG ∨ s.dst = nmH)
  noG : kvGet D.folder nmG = none
theorem F2.zero {L : List Itm} {D : Dk} (h : F1 L L.length D) (h20 : L.length ≤ 20) : D.settle.2 = 0 ∧ F2 L 0 D.settle.1 := by
  have e : D.settle = ({ D with sure := D.folder, steps := [] }, 0) := by
    unfold Dk.settle
    rw [alive_self h.ar h.dd, if_neg (by rw [h.dd]; simp)]
  rw [e]
  have hu := h.us
  have hfl := h.fl
  refine ⟨rfl, h.ar, h.dd, h.rm, by show D.files.length ≤ _; omega, Nat.zero_le _, ?_, ⟨h.has.get, h.has.nms⟩, fun s hs => (by cases hs), ?_⟩
  · show D.used ≤ _
    have : L.length * 32768 ≤ 20 * 32768 := Nat.mul_le_mul_right _ h20
    omega
  · refine kvGet_none_of fun p hp e2 => ?_
    obtain ⟨i, hi, h1, _, h3⟩ := h.has.nms p hp
    exact (fnm_gh i (by omega)).1 (h3.symm.trans e2)
/-- 'g' is made and takes the name 'h' -/
def Dk.gh (D : Dk) (s : ByteArray) : Dk := { D with files := D.files ++ [⟨s, 0⟩], folder := kvPut (kvDel (kvPut D.folder nmG D.files.length) nmG) nmH D.files.length, steps := D.steps ++ [⟨1, nmG, nmG, D.files.length⟩] ++ [⟨2, nmG, nmH, D.files.length⟩] }
theorem F2.putG {L : List Itm} {j : Nat} {D : Dk} (h : F2 L j D) (s : ByteArray) : D.put nmG s = { D with files := D.files ++ [⟨s, 0⟩], folder := kvPut D.folder nmG D.files.length, steps := D.steps ++ [⟨1, nmG, nmG, D.files.length⟩] } := by
  unfold Dk.put
  rw [h.noG]
theorem F2.app {L : List Itm} {j : Nat} {D : Dk} (h : F2 L j D) (hj : j ≤ 6) (s : ByteArray) (hs : s.size ≤ 100) : D.append nmG s = (D.put nmG s, 0) := by
  have hu := h.us
  have hr := h.rm
  unfold Dk.append
  rw [alive_self h.ar h.dd, h.dd, if_neg (by simp), gh_ok.1, if_neg (by simp), if_neg (by omega)]
theorem F2.ren {L : List Itm} {j : Nat} {D : Dk} (h : F2 L j D) (ok : DkOk D) (s : ByteArray) : (D.put nmG s).rename nmG nmH = (D.gh s, 0) := by
  have e := h.putG s
  have hg : kvGet (D.put nmG s).folder nmG = some D.files.length := by rw [e]; exact kvPut_get _ _ _ ok.fap
  have hal : (D.put nmG s).alive = D.put nmG s := alive_self (by rw [e]; exact h.ar) (by rw [e]; exact h.dd)
  unfold Dk.rename
  rw [hal, hg, if_neg (by rw [e]; simp [h.dd])]
  simp only
  rw [gh_ok.2.1, if_neg (by simp), e]
  rfl
theorem F2.step {L : List Itm} {j : Nat} {D : Dk} (h : F2 L j D) (ok : DkOk D) (s : ByteArray) (hs : s.size ≤ 100) : F2 L (j + 1) (D.gh s) := by
  have hfl := h.fl
  have hst := h.st
  have hat : ∀ id, id < D.files.length → (D.gh s).flAt id = D.flAt id := fun id hid => by
    simp [Dk.gh, Dk.flAt, List.getD, List.getElem?_append_left hid]
  have hup := used_put ok h.noG s
  have e := h.putG s
  refine ⟨h.ar, h.dd, h.rm, by simp [Dk.gh]; omega, by simp [Dk.gh]; omega, ?_, ⟨fun i hi hik h2 => ?_, h.sur.nms⟩, fun x hx => ?_, ?_⟩
  · have hg : (nmG, D.files.length) ∈ kvPut D.folder nmG D.files.length := kvGet_mem (kvPut_get _ _ _ ok.fap)
    have h1 : (D.put nmG s).used = kvSum (fun i => ((D.gh s).flAt i).data.size) (kvPut D.folder nmG D.files.length) := by rw [e]; rfl
    have h2 : (D.gh s).used = kvSum (fun i => ((D.gh s).flAt i).data.size) (kvPut (kvDel (kvPut D.folder nmG D.files.length) nmG) nmH D.files.length) := rfl
    rw [kvSum_del _ (kvApart_put _ _ ok.fap) hg] at h1
    rw [kvSum_put] at h2
    have h3 := kvSum_del_le (fun i => ((D.gh s).flAt i).data.size) (kvDel (kvPut D.folder nmG D.files.length) nmG) nmH
    have hu := h.us
    omega
  · obtain ⟨id, h3, h4, h5⟩ := h.sur.get i hi hik h2
    exact ⟨id, h3, by simp [Dk.gh]; omega, by rw [hat id h4]; exact h5⟩
  · simp only [Dk.gh, List.mem_append, List.mem_singleton] at hx
    rcases hx with (hx | rfl) | rfl
    · exact h.stp x hx
    · exact ⟨.inl rfl, .inl rfl⟩
    · exact ⟨.inl rfl, .inr rfl⟩
  · show kvGet (kvPut (kvDel (kvPut D.folder nmG D.files.length) nmG) nmH D.files.length) nmG = none
    rw [kvGet_put', if_neg (fun e => gh_ok.2.2 e.symm), kvDel_self]
/-- a name that no step bears is left as it was -/
theorem left_same {D : Dk} {n : ByteArray} (h2 : ∀ s ∈ D.steps, s.src ≠ n ∧ s.dst ≠ n) (ks : List Int) : ∀ j, kvGet (D.leftAt ks j) n = kvGet D.sure n := by
  intro j
  induction j with
  | zero => rfl
  | succ j ih =>
    unfold Dk.leftAt
    split
    · exact ih
    · next s hs =>
      have hss := h2 s (List.mem_of_getElem? hs)
      unfold leftStep
      split
      · exact ih
      · split
        · rw [kvGet_put', if_neg hss.1]; exact ih
        · split
          · rw [kvGet_put', if_neg hss.2, kvGet_del _ _ _ hss.1]; exact ih
          · split
            · rw [kvGet_del _ _ _ hss.1]; exact ih
            · exact ih
theorem F2.left {L : List Itm} {j : Nat} {D : Dk} (h : F2 L j D) (ks : List Int) {i : Nat} (hi : i < 26) : kvGet (D.left ks) (fnm i) = kvGet D.sure (fnm i) := by
  obtain ⟨h1, h2⟩ := fnm_gh i hi
  refine left_same (fun s hs => ?_) ks _
  obtain ⟨h3, h4⟩ := h.stp s hs
  refine ⟨fun e => ?_, fun e => ?_⟩
  · rcases h3 with h3 | h3
    · exact h1 (e.symm.trans h3)
    · exact h2 (e.symm.trans h3)
  · rcases h4 with h4 | h4
    · exact h1 (e.symm.trans h4)
    · exact h2 (e.symm.trans h4)
/-- a file is left whole -/
theorem F2.whole {L : List Itm} {j : Nat} {D : Dk} (h : F2 L j D) (ok : DkOk D) (h20 : L.length ≤ 20) (ks : List Int) (i : Nat) (hi : i < L.length) (hk : L[i].kind = 2) : (D.crash ks).read (fnm i) = (L[i].data, 0) := by
  obtain ⟨id, h1, h2, h3⟩ := h.sur.get i hi hi hk
  have hl := (h.left ks (show i < 26 by omega)).trans h1
  have := (crash_whole D ks (fnm i) id (ok.leftAt ks _).apart hl (by rw [h3])).1
  rw [h3] at this
  exact this
/-- what is no file is not there -/
theorem F2.absent {L : List Itm} {j : Nat} {D : Dk} (h : F2 L j D) (h20 : L.length ≤ 20) (ks : List Int) (i : Nat) (hi : i < L.length) (hk : L[i].kind ≠ 2) : (D.crash ks).read (fnm i) = (⟨#[]⟩, 7) := by
  have hs : kvGet D.sure (fnm i) = none := by
    refine kvGet_none_of fun p hp e => ?_
    obtain ⟨i', hi', h1, h2, h3⟩ := h.sur.nms p hp
    by_cases hii : i' = i
    · subst hii; exact hk h2
    · exact fnm_ne (by omega) (by omega) hii (h3.symm.trans e)
  have hl := (h.left ks (show i < 26 by omega)).trans hs
  have hn : kvGet (D.crash ks).folder (fnm i) = none := by
    refine kvGet_none_of fun p hp e => ?_
    have hm := newFolder_names D ks _ (Nat.le_refl _) p hp
    rw [e] at hm
    obtain ⟨v, hv⟩ := kvNames_mem hm
    exact kvGet_none_ne hl _ hv rfl
  unfold Dk.read
  have hd : (D.crash ks).dead = false := rfl
  rw [hd, if_neg (by simp), hn]
end Go.Proofs.YtaoejgnfoecpfaaDoor
namespace Go.Proofs.YtaoejgnfoecpfaaDoor
set_option linter.unusedVariables false
set_option linter.unusedSimpArgs false
set_option linter.unusedSectionVars false
open Go.RowKit Go.Maps

theorem nodup_sub_len {α : Type} [DecidableEq α] : ∀ {l m : List α}, l.Nodup → (∀ x ∈ l, x ∈ m) → l.length ≤ m.length
  | [], _, _, _ => Nat.zero_le _
  | x :: l, m, hn, hs => by
    have hx := hs x (by simp)
    have h1 := List.nodup_cons.1 hn
    have ih := nodup_sub_len (m := m.erase x) h1.2 fun y hy => (List.mem_erase_of_ne (fun (e : y = x) => h1.1 (by rw [← e]; exact hy))).2 (hs y (by simp [hy]))
    have h2 := List.length_erase_of_mem hx
    have h3 := List.length_pos_of_mem hx
    rw [List.length_cons]
    omega
theorem newFolder_length (D : Dk) (ks : List Int) (hn : (D.leftNames ks).Nodup) : ∀ k, k ≤ (D.leftNames ks).length → (D.newFolder ks k).length = k
  | 0, _ => rfl
  | k + 1, hk => by
    have ih := newFolder_length D ks hn k (by omega)
    have e : (D.leftNames ks).getD k ByteArray.empty = (D.leftNames ks)[k]'(by omega) := by rw [List.getD, List.getElem?_eq_getElem (by omega)]; rfl
    unfold Dk.newFolder
    rw [(kvPut_perm _ _ _).length_eq, List.length_cons, kvDel_noop, ih]
    intro p hp e2
    -- the names so far are the first k
    have : ∀ j, j ≤ k → ∀ p ∈ D.newFolder ks j, ∃ i, ∃ h : i < (D.leftNames ks).length, i < j ∧ p.1 = (D.leftNames ks)[i] := by
      intro j
      induction j with
      | zero => intro _ p hp; simp [Dk.newFolder] at hp
      | succ j ihj =>
        intro hj p hp
        unfold Dk.newFolder at hp
        rcases kvPut_mem hp with rfl | hp
        · exact ⟨j, by omega, by omega, by rw [List.getD, List.getElem?_eq_getElem (by omega)]; rfl⟩
        · obtain ⟨i, h, h1, h2⟩ := ihj (by omega) p hp
          exact ⟨i, h, by omega, h2⟩
    obtain ⟨i, h, h1, h2⟩ := this k (Nat.le_refl _) p hp
    rw [h2, e] at e2
    exact List.pairwise_iff_getElem.1 hn i k h (by omega) h1 e2
/-- the files' places -/
def isF (L : List Itm) (i : Nat) : Bool := decide ((L[i]?.map Itm.kind) = some 2)
def placesF (L : List Itm) (k : Nat) : List Nat := (List.range k).filter (isF L)
theorem isF_iff {L : List Itm} {i : Nat} (h : i < L.length) : isF L i = true ↔ L[i].kind = 2 := by
  unfold isF
  rw [List.getElem?_eq_getElem h]
  simp
theorem placesF_succ (L : List Itm) (k : Nat) : placesF L (k + 1) = placesF L k ++ (if isF L k = true then [k] else []) := by
  unfold placesF
  rw [List.range_succ, List.filter_append, List.filter_cons]
  split <;> simp
theorem placesF_mem {L : List Itm} {k i : Nat} : i ∈ placesF L k ↔ i < k ∧ isF L i = true := by
  unfold placesF
  rw [List.mem_filter, List.mem_range]
theorem names_nodup {L : List Itm} (h20 : L.length ≤ 20) : ((placesF L L.length).map fnm).Nodup := by
  have h1 : (placesF L L.length).Nodup := (List.nodup_range).filter _
  refine List.pairwise_map.2 (List.Pairwise.imp_of_mem ?_ h1)
  intro a b ha hb hab
  have h2 := (placesF_mem.1 ha).1
  have h3 := (placesF_mem.1 hb).1
  exact fnm_ne (by omega) (by omega) hab
/-- so many names are left -/
theorem F2.names {L : List Itm} {j : Nat} {D : Dk} (h : F2 L j D) (ok : DkOk D) (h20 : L.length ≤ 20) (ks : List Int) : (placesF L L.length).length ≤ (kvNames (D.crash ks).folder).length ∧ (kvNames (D.crash ks).folder).length ≤ (placesF L L.length).length + 2 := by
  have hap := (ok.leftAt ks D.steps.length).apart
  have hnd : (D.leftNames ks).Nodup := kvNames_nodup hap
  have hlen : (kvNames (D.crash ks).folder).length = (D.leftNames ks).length := by
    rw [kvNames_len]
    exact newFolder_length D ks hnd _ (Nat.le_refl _)
  rw [hlen]
  constructor
  · have := nodup_sub_len (names_nodup h20) (m := D.leftNames ks) fun x hx => by
      obtain ⟨i, hi, rfl⟩ := List.mem_map.1 hx
      obtain ⟨h1, h2⟩ := placesF_mem.1 hi
      obtain ⟨id, h3, _⟩ := h.sur.get i h1 h1 ((isF_iff h1).1 h2)
      exact kvNames_has (kvGet_mem ((h.left ks (show i < 26 by omega)).trans h3))
    rwa [List.length_map] at this
  · have hsub : ∀ j, ∀ p ∈ D.leftAt ks j, p.1 ∈ (placesF L L.length).map fnm ++ [nmG, nmH] := by
      intro j
      induction j with
      | zero =>
        intro p hp
        obtain ⟨i, hi, _, h2, h3⟩ := h.sur.nms p hp
        rw [h3]
        exact List.mem_append_left _ (List.mem_map.2 ⟨i, placesF_mem.2 ⟨hi, (isF_iff hi).2 h2⟩, rfl⟩)
      | succ j ih =>
        intro p hp
        unfold Dk.leftAt at hp
        split at hp
        · exact ih p hp
        · next s hs =>
          obtain ⟨h3, h4⟩ := h.stp s (List.mem_of_getElem? hs)
          have hS : s.src ∈ (placesF L L.length).map fnm ++ [nmG, nmH] := by rcases h3 with h3 | h3 <;> rw [h3] <;> simp
          have hD : s.dst ∈ (placesF L L.length).map fnm ++ [nmG, nmH] := by rcases h4 with h4 | h4 <;> rw [h4] <;> simp
          unfold leftStep at hp
          split at hp
          · exact ih p hp
          · split at hp
            · rcases kvPut_mem hp with rfl | hp
              · exact hS
              · exact ih p hp
            · split at hp
              · rcases kvPut_mem hp with rfl | hp
                · exact hD
                · exact ih p (kvDel_mem hp)
              · split at hp
                · exact ih p (kvDel_mem hp)
                · exact ih p hp
    have := nodup_sub_len hnd (m := (placesF L L.length).map fnm ++ [nmG, nmH]) fun x hx => by
      obtain ⟨v, hv⟩ := kvNames_mem hx
      exact hsub _ _ hv
    simpa using this
/-- the sum of some names' sizes is at most what is used -/
theorem sum_names {f : Nat → Nat} : ∀ (F : List (ByteArray × Nat)) (fo : List (ByteArray × Nat)), kvApart fo → (F.map (·.1)).Nodup → (∀ p ∈ F, ∃ id, kvGet fo p.1 = some id ∧ p.2 ≤ f id) → (F.map (·.2)).sum ≤ kvSum f fo
  | [], _, _, _, _ => Nat.zero_le _
  | p :: F, fo, ha, hn, hg => by
    obtain ⟨id, h1, h2⟩ := hg p (by simp)
    have hnn := List.nodup_cons.1 (show (p.1 :: F.map (·.1)).Nodup from hn)
    have ih := sum_names (f := f) F (kvDel fo p.1) (kvApart_del _ ha) hnn.2 fun q hq => by
      obtain ⟨id', h3, h4⟩ := hg q (by simp [hq])
      exact ⟨id', by rw [kvGet_del _ _ _ (fun e => hnn.1 (List.mem_map.2 ⟨q, hq, e.symm⟩))]; exact h3, h4⟩
    rw [kvSum_del f ha (kvGet_mem h1), List.map_cons, List.sum_cons]
    omega
/-- an item's bytes -/
def szF (L : List Itm) (i : Nat) : Nat := (L[i]?.map fun x => x.data.size).getD 0
theorem size_places {L : List Itm} (h20 : L.length ≤ 20) (hb : ∀ x ∈ L, x.data.size ≤ 32768) : ∀ k, k ≤ L.length → sizeW (L.take k) = (((placesF L k).map (szF L)).sum : Nat) ∧ ((placesF L k).map (szF L)).sum ≤ k * 32768
  | 0, _ => ⟨rfl, Nat.le_refl _⟩
  | k + 1, hk => by
    obtain ⟨h1, h2⟩ := size_places h20 hb k (by omega)
    have hx := hb _ (List.getElem_mem (show k < L.length by omega))
    have hk32 : k * 32768 ≤ 20 * 32768 := Nat.mul_le_mul_right _ (by omega)
    have hs : szF L k = (L[k]'(by omega)).data.size := by unfold szF; rw [List.getElem?_eq_getElem (by omega)]; rfl
    rw [List.take_succ_eq_append_getElem (show k < L.length by omega), sizeW_snoc, placesF_succ, Nat.succ_mul]
    by_cases hkd : (L[k]'(by omega)).kind = 2
    · rw [if_pos hkd, if_pos ((isF_iff (by omega)).2 hkd), h1, List.map_append, List.sum_append, List.map_cons, List.map_nil, List.sum_cons, List.sum_nil, hs, Nat.add_zero]
      refine ⟨?_, Nat.add_le_add h2 hx⟩
      have h3 : ((placesF L k).map (szF L)).sum ≤ 655360 := Nat.le_trans h2 hk32
      rw [IntWalk.i64_in _ (by omega)]
      omega
    · rw [if_neg hkd, if_neg (fun e => hkd ((isF_iff (by omega)).1 e)), List.append_nil]
      exact ⟨h1, Nat.le_trans h2 (Nat.le_add_right _ _)⟩
/-- what is used is at least the files' bytes -/
theorem F2.used {L : List Itm} {j : Nat} {D : Dk} (h : F2 L j D) (ok : DkOk D) (h20 : L.length ≤ 20) (ks : List Int) : ((placesF L L.length).map (szF L)).sum ≤ (D.crash ks).used := by
  have hF : (((placesF L L.length).map fun i => (fnm i, szF L i)).map (·.2)) = (placesF L L.length).map (szF L) := by rw [List.map_map]; rfl
  have hN : (((placesF L L.length).map fun i => (fnm i, szF L i)).map (·.1)) = (placesF L L.length).map fnm := by rw [List.map_map]; rfl
  rw [← hF]
  refine sum_names (f := fun i => ((D.crash ks).flAt i).data.size) _ (D.crash ks).folder (newFolder_apart D ks _) (by rw [hN]; exact names_nodup h20) fun p hp => ?_
  obtain ⟨i, hi, rfl⟩ := List.mem_map.1 hp
  obtain ⟨h1, h2⟩ := placesF_mem.1 hi
  have hr := h.whole ok h20 ks i h1 ((isF_iff h1).1 h2)
  unfold Dk.read at hr
  have hd : (D.crash ks).dead = false := rfl
  rw [hd, if_neg (by simp)] at hr
  cases hg : kvGet (D.crash ks).folder (fnm i) with
  | none =>
    rw [hg] at hr
    simp at hr
  | some id =>
    rw [hg] at hr
    have h3 := congrArg Prod.fst hr
    simp only at h3
    refine ⟨id, rfl, ?_⟩
    have hs : szF L i = L[i].data.size := by unfold szF; rw [List.getElem?_eq_getElem h1]; rfl
    rw [h3, hs]
    exact Nat.le_refl _
end Go.Proofs.YtaoejgnfoecpfaaDoor
namespace Go.Proofs.YtaoejgnfoecpfaaDoor
set_option linter.unusedVariables false
set_option linter.unusedSimpArgs false
set_option linter.unusedSectionVars false
open Go.RowKit Go.Maps

/-- what is read as a cell lies in a block of cells -/
theorem map_no_cell {w : World} {P : Program} {k : TypeId} {b : Nat} {l : List (ByteArray × Value)} (h : ownsKV w P k b l) (i : Nat) : w.cell? ⟨b, i, none⟩ = none := by
  obtain ⟨es, clock, hb, F, hs, hD⟩ := h
  simp [World.cell?, hb]
/-- the disk beside a row of items that lies elsewhere -/
def DF (w0 w : World) (b : Nat) (D : Dk) (A : Option Addr) (l : List Itm) : Prop :=
  ∃ L, DiskAt w b D L ∧ Below w0.heap.size w0 w ∧ (∀ k ∈ foot b L, w0.heap.size ≤ k) ∧ ItmA w A l ∧ ∀ g o, 0 < l.length → A = some ⟨g, o, none⟩ → g ∉ foot b L
theorem DF.ok {w0 w : World} {b : Nat} {D : Dk} {A : Option Addr} {l : List Itm} (h : DF w0 w b D A l) : DkOk D := h.elim fun _ h => h.1.ok
theorem DF.bel {w0 w : World} {b : Nat} {D : Dk} {A : Option Addr} {l : List Itm} (h : DF w0 w b D A l) : Below w0.heap.size w0 w := h.elim fun _ h => h.2.1
theorem DF.itm {w0 w : World} {b : Nat} {D : Dk} {A : Option Addr} {l : List Itm} (h : DF w0 w b D A l) : ItmA w A l := h.elim fun _ h => h.2.2.2.1
theorem DF.up {w0 w w' : World} {b : Nat} {D : Dk} {A : Option Addr} {l : List Itm} (h : DF w0 w b D A l) (hb : Below w.heap.size w w') : DF w0 w' b D A l := by
  obtain ⟨L, h1, h2, h3, h4, h5⟩ := h
  exact ⟨L, h1.below hb, h2.trans (hb.mono h2.size), h3, h4.below hb, h5⟩
theorem DF.post {w0 w w' : World} {b : Nat} {D D' : Dk} {L : Lay} {A : Option Addr} {l : List Itm} (h1 : DiskAt w b D L) (h2 : Below w0.heap.size w0 w) (h3 : ∀ k ∈ foot b L, w0.heap.size ≤ k) (h4 : ItmA w A l) (h5 : ∀ g o, 0 < l.length → A = some ⟨g, o, none⟩ → g ∉ foot b L) (hp : DkPost b L D' w w') : DF w0 w' b D' A l := by
  obtain ⟨L', q1, q2, q3⟩ := hp
  have hz := h2.size
  refine ⟨L', q1, h2.trans (q2.below hz fun k hk hm => by have := h3 k hm; omega), fun k hk => (q3 k hk).elim (h3 k) (fun e => by omega), fun hl => ?_, fun g o hl he hm => ?_⟩
  · obtain ⟨g, o, e, hg, hc⟩ := h4 hl
    have hblk := q2.block g hg (h5 g o hl e)
    refine ⟨g, o, e, Nat.lt_of_lt_of_le hg q2.size, fun i x hx j u hj => ?_⟩
    have := hc i x hx j u hj
    unfold World.cell? at this ⊢
    rw [hblk]
    exact this
  · obtain ⟨g', o', e', hg, hc⟩ := h4 hl
    rw [he] at e'
    obtain ⟨rfl, rfl⟩ : g = g' ∧ o = o' := by simpa using e'
    rcases q3 g hm with h | h
    · exact h5 g o hl he h
    · omega
/-- a disk that is empty lies beside any row of items -/
theorem DF.start {w0 w : World} {b : Nat} {room : Int} {L : Lay} {A : Option Addr} {l : List Itm} (h1 : DiskAt w b (dkNew room) L) (h2 : Below w0.heap.size w0 w) (h3 : ∀ k ∈ foot b L, w0.heap.size ≤ k) (hv : L.v = .slice none 0 0) (h4 : ItmA w A l) : DF w0 w b (dkNew room) A l := by
  refine ⟨L, h1, h2, h3, h4, fun g o hl he hm => ?_⟩
  obtain ⟨g', o', e', hg, hc⟩ := h4 hl
  rw [he] at e'
  obtain ⟨rfl, rfl⟩ : g = g' ∧ o = o' := by simpa using e'
  have hc0 := hc 0 _ (List.getElem?_eq_getElem hl) 0 _ rfl
  have hown : L.v.ownBlock = none := by rw [hv]; rfl
  simp only [foot, List.mem_cons, List.mem_append, Option.mem_toList] at hm
  have hbs : L.bs = [] := List.length_eq_zero_iff.1 h1.len
  rw [hown, hbs] at hm
  rcases hm with rfl | rfl | rfl | hm | hm
  · unfold itmC at hc0
    have hb := h1.blk.cell (o + 0 * 5 + 0)
    rw [hc0] at hb
    generalize o + 0 * 5 + 0 = n at hb
    match n, hb with
    | 0, hb => cases hb
    | 1, hb => cases hb
    | 2, hb => cases hb
    | 3, hb => rw [hv] at hb; cases hb
    | 4, hb => cases hb
    | 5, hb => cases hb
    | n + 6, hb => cases hb
  · rw [map_no_cell h1.mp] at hc0; cases hc0
  · rw [map_no_cell h1.sf] at hc0; cases hc0
  · cases hm
  · cases hm
set_option maxRecDepth 100000 in
set_option maxHeartbeats 400000 in
theorem new_nil (room : Int) (w : World) (h : 0 ≤ room ∧ room ≤ 1073741824) :
    Calls Tryd.prog 28 #[.int .i64 room] w fun e w' => ∃ b L, e = .returned (.tuple #[.pointer (some ⟨b, 0, none⟩), .int .i64 0]) ∧ DiskAt w' b (dkNew room) L ∧ Below w.heap.size w w' ∧ (∀ k ∈ foot b L, w.heap.size ≤ k) ∧ L.v = .slice none 0 0 := by
  have hmm := @run_makeMap Tryd.prog
  obtain ⟨ha, hb⟩ := h
  go_enter Tryd.func28, Tryd.ntmps28
  go_wp2
  go_ret2
  refine ⟨w.heap.size + 2, ⟨w.heap.size, w.heap.size + 1, .slice none 0 0, []⟩, rfl, ?_, ?_, ?_, rfl⟩
  · have hm := ownsKV_made w Tryd.prog 9
    have hm2 := ownsKV_made (w.alloc (.map #[] 0)) Tryd.prog 9
    simp only [World.size_alloc] at hm2
    exact
    { blk := by have := BlockIs.new ((w.alloc (.map #[] 0)).alloc (.map #[] 0)) (dkCells room w.heap.size (w.heap.size + 1) (.slice none 0 0) (-1) false) 121; simp only [World.size_alloc] at this; exact this
      mp := ownsKV_block hm (by rw [Below.heap_alloc _ _ _ (by simp; omega), Below.heap_alloc _ _ _ (by simp)])
      sf := ownsKV_block hm2 (by rw [Below.heap_alloc _ _ _ (by simp)])
      st := ⟨rfl, Or.inl ⟨rfl, rfl⟩⟩
      len := rfl
      fs := fun i hi => by simp [dkNew] at hi
      nd := by simp [foot, Value.ownBlock]
      ok := ⟨fun p hp => by simp [dkNew] at hp, fun p hp => by simp [dkNew] at hp, fun p hp => by simp [dkNew] at hp, List.Pairwise.nil, List.Pairwise.nil, Nat.le_refl _, Nat.le_refl _, fun p hp => by simp [dkNew] at hp, by simp [dkNew], ⟨ha, hb⟩, fun p hp => by simp [dkNew] at hp, fun p hp => by simp [dkNew] at hp⟩ }
  · exact (((Below.refl _ _).alloc (Nat.le_refl _) _).alloc (by simp) _).alloc (by simp; omega) _
  · intro k hk
    have hk : k = w.heap.size + 2 ∨ k = w.heap.size ∨ k = w.heap.size + 1 := by
      simpa [foot, Value.ownBlock] using hk
    omega

section
variable {w0 w : World} {b : Nat} {D : Dk} {A : Option Addr} {l : List Itm}
theorem appendF (name data : ByteArray) (h : DF w0 w b D A l) (hs : name.size ≤ 9223372036854775807) (hds : data.size ≤ 9223372036854775807) (hsm : D.small 400000) :
    Calls Tryd.prog 31 #[.pointer (some ⟨b, 0, none⟩), .string name, .string data] w fun e w' => e = .returned (.int .i64 (D.append name data).2) ∧ DF w0 w' b (D.append name data).1 A l := by
  obtain ⟨L, h1, h2, h3, h4, h5⟩ := h
  exact (append_any b D L name data w h1 hs hds (Nat.le_trans hsm.1 (by decide)) (Nat.le_trans hsm.2 (by decide))).mono fun e w' ⟨q1, q2⟩ => ⟨q1, DF.post h1 h2 h3 h4 h5 q2⟩
theorem syncF (name : ByteArray) (h : DF w0 w b D A l) (hs : name.size ≤ 9223372036854775807) :
    Calls Tryd.prog 33 #[.pointer (some ⟨b, 0, none⟩), .string name] w fun e w' => e = .returned (.int .i64 (D.sync name).2) ∧ DF w0 w' b (D.sync name).1 A l := by
  obtain ⟨L, h1, h2, h3, h4, h5⟩ := h
  exact (sync_any b D L name w h1 hs).mono fun _e _w' ⟨q1, q2⟩ => ⟨q1, DF.post h1 h2 h3 h4 h5 q2⟩
theorem settleF (h : DF w0 w b D A l) :
    Calls Tryd.prog 34 #[.pointer (some ⟨b, 0, none⟩)] w fun e w' => e = .returned (.int .i64 D.settle.2) ∧ DF w0 w' b D.settle.1 A l := by
  obtain ⟨L, h1, h2, h3, h4, h5⟩ := h
  exact (settle_any b D L w h1).mono fun _e _w' ⟨q1, q2⟩ => ⟨q1, DF.post h1 h2 h3 h4 h5 q2⟩
theorem renameF (name dst : ByteArray) (h : DF w0 w b D A l) (hs : name.size ≤ 9223372036854775807) (hds : dst.size ≤ 9223372036854775807) (hsm : D.small 400000) :
    Calls Tryd.prog 35 #[.pointer (some ⟨b, 0, none⟩), .string name, .string dst] w fun e w' => e = .returned (.int .i64 (D.rename name dst).2) ∧ DF w0 w' b (D.rename name dst).1 A l := by
  obtain ⟨L, h1, h2, h3, h4, h5⟩ := h
  exact (rename_any b D L name dst w h1 hs hds (Nat.le_trans hsm.2 (by decide)) (Nat.le_trans hsm.1 (by decide))).mono fun _e _w' ⟨q1, q2⟩ => ⟨q1, DF.post h1 h2 h3 h4 h5 q2⟩
theorem readF (name : ByteArray) (h : DF w0 w b D A l) (hs : name.size ≤ 9223372036854775807) :
    Calls Tryd.prog 37 #[.pointer (some ⟨b, 0, none⟩), .string name] w fun e w' => e = .returned (.tuple #[.string (D.read name).1, .int .i64 (D.read name).2]) ∧ w = w' := by
  obtain ⟨L, h1, _⟩ := h
  exact read_any b D L name w h1 hs
theorem usedF (h : DF w0 w b D A l) (hsm : D.small 400000) :
    Calls Tryd.prog 39 #[.pointer (some ⟨b, 0, none⟩)] w fun e w' => e = .returned (.int .i64 D.used) ∧ Below w.heap.size w w' := by
  obtain ⟨L, h1, _⟩ := h
  exact used_any b D L w h1 (Nat.le_trans hsm.1 (by decide))
/-- what keeps may be: a row of so many numbers, each a word -/
def KeepsOk (ks : List Int) : Prop := ks.length ≤ 9223372036854775807 ∧ ∀ x ∈ ks, -9223372036854775808 ≤ x ∧ x ≤ 9223372036854775807
theorem crashF (ks : List Int) (v : Value) (h : DF w0 w b D A l) (hv : RowInt w v ks) (hk : KeepsOk ks) (hsm : D.small 400000) :
    Calls Tryd.prog 36 #[.pointer (some ⟨b, 0, none⟩), v] w fun e w' => e = .returned (.tuple #[]) ∧ DF w0 w' b (D.crash ks) A l := by
  obtain ⟨L, h1, h2, h3, h4, h5⟩ := h
  exact (crash_any b D L ks v w h1 hv hk.1 hk.2 hsm.2 hsm.1).mono fun _e _w' ⟨q1, q2⟩ => ⟨q1, DF.post h1 h2 h3 h4 h5 q2⟩
theorem listF (h : DF w0 w b D A l) (hd : D.dead = false) (hl : D.folder.length ≤ 1000000) :
    Calls Tryd.prog 38 #[.pointer (some ⟨b, 0, none⟩)] w fun e w' => ∃ a c, e = .returned (.tuple #[.slice a (kvNames D.folder).length c, .int .i64 0]) ∧ Below w.heap.size w w' := by
  obtain ⟨L, h1, _⟩ := h
  refine (list_any b D L w h1 hd hl).mono fun _e _w' ⟨v, q1, q2, q3⟩ => ?_
  rcases q2.2 with ⟨hv, hn⟩ | ⟨g, cap, cur, hv, _⟩
  · exact ⟨none, 0, by rw [q1, hv, hn], q3⟩
  · exact ⟨_, cap, by rw [q1, hv], q3⟩
end
set_option maxRecDepth 100000 in
theorem fname_any (i : Nat) (w : World) (hi : i < 26) : Calls Tryd.prog 32 #[.int .i64 (i : Nat)] w fun e w' => e = .returned (.string (fnm i)) ∧ Below w.heap.size w w' := by
  have hcv : (convert 46 9 (.slice (some ⟨w.heap.size, 0, none⟩) 2 2)).run Tryd.prog (w.alloc (.cells #[.int .u8 102, .int .u8 (97 + (i : Int))] 5)) = .ok (.string (fnm i)) (w.alloc (.cells #[.int .u8 102, .int .u8 (97 + (i : Int))] 5)) := by
    refine run_convert_own 46 9 5 Tryd.underlying46 Tryd.underlying5 Tryd.underlying9 (base := w.heap.size) (n := 2) (l := [102, UInt8.ofNat (97 + i)]) ?_
    have h := World.ownsRow_lit (base := w.heap.size) (size := 1) (e := 5) w #[.int .u8 102, .int .u8 (97 + (i : Int))] 2 (Nat.le_refl _) (by decide) rfl
    have e : bytesV [102, UInt8.ofNat (97 + i)] = (#[Value.int .u8 102, Value.int .u8 (97 + (i : Int))] : Array Value).toList := by
      have : (UInt8.ofNat (97 + i)).toNat = 97 + i := by rw [UInt8.toNat_ofNat']; omega
      simp [bytesV]
      omega
    rw [e]; exact h
  have hb := (Below.refl w.heap.size w).alloc (Nat.le_refl _) (.cells #[.int .u8 102, .int .u8 (97 + (i : Int))] 5)
  have HB := Lib.hid hb
  clear hb
  go_enter Tryd.func32, Tryd.ntmps32
  go_wp2
  go_ret
  exact ⟨rfl, HB.out⟩
end Go.Proofs.YtaoejgnfoecpfaaDoor
namespace Go.Proofs.YtaoejgnfoecpfaaDoor
set_option linter.unusedVariables false
set_option linter.unusedSimpArgs false
set_option linter.unusedSectionVars false
open Go.RowKit Go.Maps Go.ChangeShapes Go.WideShapes Go.ChangeAt Go.Deep

def KsP (W : World) (v : Value) (ks : List Int) : Prop := RowInt W v ks ∧ KeepsOk ks
def BesP (W : World) (v : Value) (l : List ByteArray) : Prop := ∃ B c, v = .slice B l.length c ∧ StrsA W W.heap.size B l ∧ l.length ≤ 140737488355328 ∧ ∀ s ∈ l, s.size ≤ 140737488355328
section
variable {H : Type} {enc : TypeId × Value → H} {W : World} {base base' : Nat} {v : Value} {d : DataW H} {p : List MemPlace}
set_option maxRecDepth 100000 in
/-- a row of numbers -/
theorem ks_in (hv : Value.okWide Tryd.prog W .any base 51 v) (h : DataW.Trod enc Tryd.prog W base' (fun _ => true) true 51 v d p) (_ : ∀ n ∈ d.weights Tryd.prog 51, n ≤ reachBytes) : ∃ ks, KsP W v ks := by
  obtain ⟨a0, len0, cap0, rfl⟩ := okWide_slice Tryd.underlying51 hv
  obtain ⟨fuel, hf⟩ := h
  rcases open_ints Tryd.underlying51 Tryd.underlying3 (by kernel_rfl) hf with ⟨hcs, _⟩ | ⟨x, l, c, zs, hcs, _, hl, hm, hz, _, hcell, hwz⟩
  · simp [Value.cells] at hcs
    obtain ⟨rfl, rfl, rfl⟩ := hcs
    exact ⟨[], Or.inl ⟨⟨_, _, rfl⟩, rfl⟩, by decide, fun x hx => by simp at hx⟩
  · simp [Value.cells] at hcs
    obtain ⟨rfl, rfl, rfl⟩ := hcs
    simp only [if_true] at hz
    have hlen : (zs.take len0).length = len0 := by rw [List.length_take]; omega
    refine ⟨zs.take len0, ?_, by rw [hlen]; simp only [maxLen] at hm; omega, fun x hx => ?_⟩
    · by_cases h0 : len0 = 0
      · subst h0
        exact Or.inl ⟨⟨_, _, rfl⟩, by simp⟩
      · have hsp := World.cell?_spot (hcell 0 (by omega))
        have hsp' : x.spot = none := by
          unfold Addr.add at hsp; simpa using hsp
        refine Or.inr ⟨x.block, x.off, cap0, ?_, fun j hj => ?_⟩
        · rw [hlen]
          obtain ⟨g, o, s⟩ := x
          simp only at hsp'
          subst hsp'; rfl
        · rw [hlen] at hj
          have hc := hcell j (by omega)
          rw [addr_addx x hsp'] at hc
          rw [hc, List.getElem_take, List.getD, List.getElem?_eq_getElem (by omega)]; rfl
    · have h1 := hwz x (List.mem_of_mem_take hx)
      have h2 : (decide (IntKind.i64.min ≤ x) && decide (x ≤ IntKind.i64.max)) = true := h1
      simp only [Bool.and_eq_true, decide_eq_true_eq] at h2
      have e1 : IntKind.i64.min = -9223372036854775808 := by decide
      have e2 : IntKind.i64.max = 9223372036854775807 := by decide
      omega

set_option maxRecDepth 100000 in
theorem bes_in (hv : Value.okWide Tryd.prog W .any base 50 v) (h : DataW.Trod enc Tryd.prog W base' (fun _ => true) true 50 v d p) (hwt : ∀ n ∈ d.weights Tryd.prog 50, n ≤ reachBytes) : ∃ l, BesP W v l := by
  obtain ⟨fuel, hf⟩ := h
  rw [okWide_cells Tryd.underlying50 hv] at hf
  obtain ⟨l, B, c, h1, h2, _, _, h5, h6⟩ := strs_sized hf hwt
  exact ⟨l, B, c, h1, h2, by omega, h6⟩
end
end Go.Proofs.YtaoejgnfoecpfaaDoor
namespace Go.Proofs.YtaoejgnfoecpfaaDoor
set_option linter.unusedVariables false
set_option linter.unusedSimpArgs false
set_option linter.unusedSectionVars false
open Go.RowKit Go.Maps

/-- a text cut to so many bytes -/
def cutF (n : Nat) (s : ByteArray) : ByteArray := if n < s.size then s.extract 0 n else s
theorem cutF_le (n : Nat) (s : ByteArray) : (cutF n s).size ≤ n := by
  unfold cutF
  split
  · rw [ByteArray.size_extract]; omega
  · omega
theorem small_crashF {D : Dk} (ks : List Int) (h : D.sure.length + D.steps.length ≤ 400000) : (D.crash ks).small 400000 := by
  refine ⟨?_, Nat.zero_le _⟩
  rw [crash_files]
  unfold Dk.leftNames
  rw [kvNames_len]
  exact Nat.le_trans (D.leftAt_len ks D.steps.length) h
theorem placesF_len (L : List Itm) (k : Nat) : (placesF L k).length ≤ k := by
  unfold placesF
  exact Nat.le_trans (List.length_filter_le _ _) (by rw [List.length_range]; omega)

set_option maxRecDepth 100000 in
set_option maxHeartbeats 12800000 in
theorem cfiles_all (A : Option Addr) (ca : Nat) (la : List Itm) (bs : List ByteArray) (bv : Value) (ks : List Int) (kv : Value) (w : World) (he : Env w) (hi : ItmA w A la) (hb : ∀ x ∈ la, ItB x) (hn : A = none → ca = 0) (hc : la.length ≤ ca) (hbes : BesP w bv bs) (hks : KsP w kv ks) :
    Calls Tryd.prog 7 #[.slice A la.length ca, bv, kv] w fun e w' => e = .returned (.bool true) ∧ Below w.heap.size w w' := by
  have HE := Lib.hid fun W (hb : Below w.heap.size w W) => he.below hb
  have HN := Lib.hid (new_nil 1048576 w (by decide))
  have HF := Lib.hid fun W (hw : Below w.heap.size w W) => ifew_any A ca la 20 W (hi.below hw) hn hc (by decide)
  have HLB := Lib.hid (show ∀ x ∈ la.take 20, ItB x from fun x hx => hb x (List.mem_of_mem_take hx))
  have hl20 : (la.take 20).length ≤ 20 := by rw [List.length_take]; omega
  obtain ⟨B, cb, rfl, hstr, hbl, hbz⟩ := hbes
  have HS := Lib.hid hstr
  have HZ := Lib.hid hbz
  have HKR := Lib.hid hks.1
  have HKK := Lib.hid hks.2
  clear he hi hb hn hc hstr hbz hks
  generalize la.take 20 = L20 at *
  go_enter Tryd.func7, Tryd.ntmps7
  go_wp2_with fail
  refine HN.out.mono ?_
  rintro e w1 ⟨b, L, rfl, hd1, hb1, hf1, hv1⟩
  have HB1 := Lib.hid hb1
  have HD1 := Lib.hid (And.intro hd1 (And.intro hf1 hv1))
  clear hd1 hb1 hf1 hv1 HN
  go_wp2_with fail
  refine (HF.out _ HB1.out).mono ?_
  rintro e w2 ⟨A2, c2, rfl, ho2, hn2, hb2⟩
  have HB2 := Lib.hid (HB1.out.trans (hb2.mono HB1.out.size))
  have HI2 := Lib.hid (own_itmA ho2 rfl)
  have HD2 := Lib.hid (HD1.out.1.below hb2)
  clear HF ho2 hb2 hn2
  go_wp2_with fail
  refine (wwalk_any A2 c2 L20 w2 (HE.out _ HB2.out) HI2.out HLB.out (by omega)).mono ?_
  rintro e w3 ⟨n3, hch, hb3, hor⟩
  have HB3 := Lib.hid (HB2.out.trans (hb3.mono HB2.out.size))
  rcases hor with ⟨hn3, rfl⟩ | ⟨rfl, X, cx, xs, rfl, hix, hpx, hsx, hlx, hcx⟩
  · have hz3 : ¬ (n3 : Int) = 0 := by omega
    have hnz : ((n3 : Int) != 0) = true := by simpa using hz3
    clear hch hb3 HI2 HD1 HD2
    go_wp2
    go_ret
    exact ⟨rfl, HB3.out⟩
  have HTO := Lib.hid ((tree_perm hpx).2 ((chk_zero hch).1 rfl))
  have H32 := Lib.hid (show ∀ x ∈ xs, x.data.size ≤ 32768 from fun x hx => by
    have h := HTO.out.fit x hx
    unfold fitI at h
    split at h; · cases h
    split at h; · cases h
    split at h; · cases h
    split at h; · cases h
    omega)
  have hx20 : xs.length ≤ 20 := by omega
  have H20 := Lib.hid hx20
  have HDF := Lib.hid (show ∃ D, F1 xs 0 D ∧ DF w w3 b D X xs from ⟨_, F1.zero xs, DF.start (HD2.out.below hb3) HB3.out HD1.out.2.1 HD1.out.2.2 hix⟩)
  clear hch hb3 hix hpx hsx hlx hcx HI2 HD1 HD2 HTO
  go_wp2
  go_loopw [11, 45] (fun nv iv wr => ∃ k : Nat, nv = .int .i64 ((placesF xs k).length : Nat) ∧ iv = .int .i64 (k : Nat) ∧ k ≤ xs.length ∧ Hid (∃ D, F1 xs k D ∧ DF w wr b D X xs)) (fun _ iv _ => xs.length - (intOf iv).toNat)
  case atStart => exact ⟨0, rfl, rfl, Nat.zero_le _, HDF⟩
  case round =>
    clear HDF
    obtain ⟨k, rfl, rfl, hk, HDX⟩ := hrel
    obtain ⟨D, hf1, hdf⟩ := HDX.out
    clear HDX
    have HF1 := Lib.hid hf1
    have HDF := Lib.hid hdf
    clear hf1 hdf
    have hpl := placesF_len xs k
    by_cases hkl : k < xs.length
    · have hki : (k : Int) < (xs.length : Int) := by omega
      obtain ⟨g, o, rfl, hg, hcc⟩ := HDF.out.itm (by omega)
      obtain ⟨q0, q1, q2, q3, q4⟩ := itm_cells hcc hkl
      clear hcc
      have HP := Lib.hid (placesF_succ xs k)
      have hsm : D.small 400000 := ⟨by have := HF1.out.fl; omega, by have := HF1.out.st; omega⟩
      have hok := HDF.out.ok
      have hd32 := H32.out _ (List.getElem_mem hkl)
      by_cases hkd : xs[k].kind = 2
      · have hif := (isF_iff hkl).2 hkd
        have HPL := Lib.hid (show (placesF xs (k + 1)).length = (placesF xs k).length + 1 by rw [HP.out, if_pos hif, List.length_append, List.length_singleton])
        have HC1 := Lib.hid fun W (h : DF w W b D (some ⟨g, o, none⟩) xs) => appendF (fnm k) xs[k].data h (Nat.le_trans (show (fnm k).size ≤ 2 from Nat.le_refl _) (by decide)) (by omega) hsm
        have HC2 := Lib.hid fun W (h : DF w W b (D.put (fnm k) xs[k].data) (some ⟨g, o, none⟩) xs) => syncF (fnm k) h (Nat.le_trans (show (fnm k).size ≤ 2 from Nat.le_refl _) (by decide))
        rw [HF1.out.app H20.out hkl hd32] at HC1
        rw [HF1.out.syn hok H20.out hkl] at HC2
        have HN1 := Lib.hid (HF1.out.add hok H20.out hkl hkd hd32)
        have HFN := Lib.hid fun W => fname_any k W (by omega)
        simp only at HC1 HC2
        generalize D.add (fnm k) xs[k].data = D2 at *
        generalize D.put (fnm k) xs[k].data = D1 at *
        generalize fnm k = nm at *
        clear hsm hok hd32 hif HP
        generalize xs[k] = x at *
        obtain ⟨pa, ki, mo, ti, da⟩ := x
        simp only at q0 q1 q2 q3 q4 hkd HC1 HC2
        subst hkd
        have hba := (Below.refl wr.heap.size wr).alloc (Nat.le_refl _) (.cells #[.string pa, .int .i64 2, .int .i64 mo, .int .i64 ti, .string da] 59)
        have HK := Lib.hid (Blk.new wr 59 #[.string pa, .int .i64 2, .int .i64 mo, .int .i64 ti, .string da])
        have HR5 := Lib.hid (HDF.out.up hba)
        have HU0 := Lib.hid fun W W' (h : DF w W b D (some ⟨g, o, none⟩) xs ∧ W.cell? ⟨wr.heap.size, 4, none⟩ = some (.string da)) (hb : Below W.heap.size W W') => And.intro (h.1.up hb) ((hb.cell (p := ⟨wr.heap.size, 4, none⟩) (World.block_lt_of_cell? _ _ h.2)).trans h.2)
        clear hba
        obtain ⟨wo, rfl⟩ : ∃ wo : World, wo = wr := ⟨_, rfl⟩
        go_upto_region 12 with fail
        generalize wo.alloc (.cells #[.string pa, .int .i64 2, .int .i64 mo, .int .i64 ti, .string da] 59) = w5 at *
        have c1' : w5.cell? ⟨wo.heap.size, 1, none⟩ = some (.int .i64 2) := HK.out.cell 1
        have c4' : w5.cell? ⟨wo.heap.size, 4, none⟩ = some (.string da) := HK.out.cell 4
        have HR5 := Lib.hid (And.intro HR5.out c4')
        clear HK HDF
        go_region_with (first
          | (go_at_call 32; refine (HFN.out _).mono ?_; rintro e w6 ⟨rfl, hb6⟩; (first | have r6 := HU0.out _ _ HR5.out hb6 | have r6 := HU0.out _ _ (HU0.out _ _ HR5.out (Below.drew (Below.refl _ _))) hb6 | have r8 := DF.up hd7 hb6 | have r8 := DF.up (hd7.up (Below.drew (Below.refl _ _))) hb6); try have c6 := r6.2)
          | (go_at_call 31; refine (HC1.out _ (by first | exact r6.1 | exact r6.1.up (Below.drew (Below.refl _ _)))).mono ?_; rintro e w7 ⟨rfl, hd7⟩)
          | (go_at_call 33; refine (HC2.out _ (by first | exact r8 | exact r8.up (Below.drew (Below.refl _ _)))).mono ?_; rintro e w9 ⟨rfl, hd9⟩))
        all_goals
          have HI9 := Lib.hid (show ∃ D, F1 xs (k + 1) D ∧ DF w w9 b D (some ⟨g, o, none⟩) xs from ⟨D2, HN1.out, hd9⟩)
          clear hd9 r8 hd7 r6 c6 hb6 HC1 HC2 HFN HU0 HR5 HN1 HF1
          go_wp2
          go_roundw
          case rel => exact ⟨k + 1, by rw [HPL.out]; go_num, by go_num, by omega, HI9⟩
          case measure => simp [intOf]; omega
      · have hif : isF xs k ≠ true := fun e => hkd ((isF_iff hkl).1 e)
        have HPL := Lib.hid (show (placesF xs (k + 1)).length = (placesF xs k).length by rw [HP.out, if_neg hif, List.append_nil])
        have HN1 := Lib.hid (HF1.out.skip hkl hkd)
        clear hsm hok hd32 hif HP
        generalize xs[k] = x at *
        obtain ⟨pa, ki, mo, ti, da⟩ := x
        simp only at q0 q1 q2 q3 q4 hkd
        have hkd2 : (ki != 2) = true := by simpa using hkd
        have hba := (Below.refl wr.heap.size wr).alloc (Nat.le_refl _) (.cells #[.string pa, .int .i64 ki, .int .i64 mo, .int .i64 ti, .string da] 59)
        have HI9 := Lib.hid (show ∃ D, F1 xs (k + 1) D ∧ DF w (wr.alloc (.cells #[.string pa, .int .i64 ki, .int .i64 mo, .int .i64 ti, .string da] 59)) b D (some ⟨g, o, none⟩) xs from ⟨D, HN1.out, HDF.out.up hba⟩)
        clear hba HDF HF1 HN1
        go_wp2
        go_roundw
        case rel => exact ⟨k + 1, by rw [HPL.out], by go_num, by omega, HI9⟩
        case measure => simp [intOf]; omega
    · obtain rfl : k = xs.length := by omega
      have hki : ¬ (xs.length : Int) < (xs.length : Int) := by omega
      have hz := F2.zero HF1.out H20.out
      have HC := Lib.hid (settleF HDF.out)
      rw [hz.1] at HC
      have HF2 := Lib.hid hz.2
      clear hz HF1
      generalize D.settle.1 = D1 at *
      go_wp2_with fail
      refine HC.out.mono ?_
      rintro e w4 ⟨rfl, hd4⟩
      have HDF := Lib.hid (show ∃ D, F2 xs 0 D ∧ DF w w4 b D X xs from ⟨D1, HF2.out, hd4⟩)
      clear hd4 HC HF2
      go_wp2
      go_loopw [14] (fun iv wr => ∃ j : Nat, iv = .int .i64 (j : Nat) ∧ j ≤ 6 ∧ j ≤ bs.length ∧ Hid (∃ D, F2 xs j D ∧ DF w wr b D X xs)) (fun iv _ => 6 - (intOf iv).toNat)
      case atStart => exact ⟨0, rfl, by omega, by omega, HDF⟩
      case round =>
        clear HDF
        obtain ⟨j, rfl, hj6, hjl, HDX⟩ := hrel
        obtain ⟨D, hf2, hdf⟩ := HDX.out
        clear HDX
        have HF2 := Lib.hid hf2
        have HDF := Lib.hid hdf
        clear hf2 hdf
        by_cases hlt : j < bs.length ∧ j < 6
        · obtain ⟨h1, h2⟩ := hlt
          obtain ⟨g, o, rfl, hg, hcc⟩ := HS.out (by omega)
          have hcr := (HDF.out.bel.cell (p := ⟨g, o + j, none⟩) hg).trans (hcc j _ (List.getElem?_eq_getElem h1))
          have hrz := HZ.out _ (List.getElem_mem h1)
          clear hcc
          generalize bs[j] = r at hcr hrz
          go_upto_if 89 with (fail)
          go_cut [15] (fun s9 wc => s9 = .string (cutF 100 r) ∧ wr = wc)
          case first =>
            by_cases h : 100 < r.size
            · have E := Lib.hid (show cutF 100 r = r.extract 0 100 from if_pos h)
              go_wp2_with (fail)
              go_meet
              exact ⟨by rw [E.out], rfl⟩
            · have E := Lib.hid (show cutF 100 r = r from if_neg h)
              go_wp2_with (fail)
              go_meet
              exact ⟨by rw [E.out], rfl⟩
          case rest =>
            obtain ⟨rfl, rfl⟩ := hcut
            have hcz := cutF_le 100 r
            clear hrz hcr
            generalize cutF 100 r = s at *
            have hsm : D.small 400000 := ⟨by have := HF2.out.fl; omega, by have := HF2.out.st; omega⟩
            have hpe := HF2.out.putG s
            have hsm2 : (D.put nmG s).small 400000 := by
              rw [hpe]
              exact ⟨by have := HF2.out.fl; simp; omega, by have := HF2.out.st; simp; omega⟩
            have HC1 := Lib.hid (appendF nmG s HDF.out (by decide) (by omega) hsm)
            rw [HF2.out.app (by omega) s hcz] at HC1
            have HC2 := Lib.hid fun W (h : DF w W b (D.put nmG s) X xs) => renameF nmG nmH h (by decide) (by decide) hsm2
            rw [HF2.out.ren HDF.out.ok s] at HC2
            have HN1 := Lib.hid (HF2.out.step HDF.out.ok s hcz)
            simp only at HC1 HC2
            clear hpe hsm hsm2
            generalize D.gh s = D2 at *
            generalize D.put nmG s = D1 at *
            go_wp2_with fail
            refine HC1.out.mono ?_
            rintro e w5 ⟨rfl, hd5⟩
            have HD5 := Lib.hid hd5
            clear hd5 HC1
            go_wp2_with fail
            refine (HC2.out _ HD5.out).mono ?_
            rintro e w6 ⟨rfl, hd6⟩
            have HI6 := Lib.hid (show ∃ D, F2 xs (j + 1) D ∧ DF w w6 b D X xs from ⟨D2, HN1.out, hd6⟩)
            clear hd6 HC2 HD5 HN1 HF2 HDF
            go_wp2
            go_roundw
            case rel => exact ⟨j + 1, by go_num, by omega, by omega, HI6⟩
            case measure => simp [intOf]; omega
        · have hsm : D.small 400000 := ⟨by have := HF2.out.fl; omega, by have := HF2.out.st; omega⟩
          have hok := HDF.out.ok
          have hsl := hok.sln
          have hfl := HF2.out.fl
          have hstl := HF2.out.st
          have HC := Lib.hid (crashF ks kv HDF.out (HKR.out.below HDF.out.bel) HKK.out hsm)
          have HSM := Lib.hid (small_crashF (D := D) ks (by omega))
          have HW := Lib.hid (HF2.out.whole hok H20.out ks)
          have HA := Lib.hid (HF2.out.absent H20.out ks)
          have HNM := Lib.hid (HF2.out.names hok H20.out ks)
          have HUS := Lib.hid (HF2.out.used hok H20.out ks)
          have HDD := Lib.hid (show (D.crash ks).dead = false from rfl)
          clear hsm hok hsl hfl hstl HF2
          generalize D.crash ks = E at *
          have hpl := placesF_len xs xs.length
          rcases (by omega : ¬ j < bs.length ∨ (j < bs.length ∧ ¬ j < 6)) with h1 | ⟨h1, h2⟩
          all_goals
            clear hlt
            go_wp2_with fail
            refine HC.out.mono ?_
            rintro e w5 ⟨rfl, hd5⟩
            have HD5 := Lib.hid hd5
            clear hd5 HC HDF
            go_wp2
            go_loopw [106] (fun iv wr => ∃ i : Nat, iv = .int .i64 (i : Nat) ∧ i ≤ xs.length ∧ Hid (DF w wr b E X xs)) (fun iv _ => xs.length - (intOf iv).toNat)
            case atStart => exact ⟨0, rfl, Nat.zero_le _, HD5⟩
            case round =>
              clear HD5
              obtain ⟨i, rfl, hil, HDF⟩ := hrel
              by_cases hi : i < xs.length
              · have hii : (i : Int) < (xs.length : Int) := by omega
                obtain ⟨g, o, rfl, hg, hcc⟩ := HDF.out.itm (by omega)
                obtain ⟨q0, q1, q2, q3, q4⟩ := itm_cells hcc hi
                clear hcc
                have HFN := Lib.hid fun W => fname_any i W (by omega)
                have HRD := Lib.hid fun W (h : DF w W b E (some ⟨g, o, none⟩) xs) => readF (fnm i) h (Nat.le_trans (show (fnm i).size ≤ 2 from Nat.le_refl _) (by decide))
                have hw := HW.out i hi
                have ha := HA.out i hi
                generalize fnm i = nm at *
                generalize xs[i] = x at *
                obtain ⟨pa, ki, mo, ti, da⟩ := x
                simp only at q0 q1 q2 q3 q4 hw ha
                have hba := (Below.refl wr.heap.size wr).alloc (Nat.le_refl _) (.cells #[.string pa, .int .i64 ki, .int .i64 mo, .int .i64 ti, .string da] 59)
                have HK := Lib.hid (Blk.new wr 59 #[.string pa, .int .i64 ki, .int .i64 mo, .int .i64 ti, .string da])
                have HR5 := Lib.hid (HDF.out.up hba)
                clear hba HDF
                by_cases hkd : ki = 2
                · rw [hw hkd] at HRD
                  subst hkd
                  have hdd : (da.toList == da.toList) = true := by simp
                  clear hw ha
                  go_wp2_with fail
                  refine (HFN.out _).mono ?_
                  rintro e w6 ⟨rfl, hb6⟩
                  have HR6 := Lib.hid (HR5.out.up hb6)
                  have HK6 := Lib.hid (HK.out.below hb6 (by simp))
                  clear hb6 HR5 HK
                  go_wp2_with fail
                  refine (HRD.out _ HR6.out).mono ?_
                  rintro e w7 ⟨rfl, rfl⟩
                  have c1' := HK6.out.cell 1
                  have c4' := HK6.out.cell 4
                  go_wp2
                  go_roundw
                  case rel => exact ⟨i + 1, by go_num, by omega, HR6⟩
                  case measure => simp [intOf]; omega
                · rw [ha hkd] at HRD
                  have hkd2 : (ki == 2) = false := by simpa using hkd
                  have hkd3 : (ki != 2) = true := by simpa using hkd
                  clear hw ha
                  go_wp2_with fail
                  refine (HFN.out _).mono ?_
                  rintro e w6 ⟨rfl, hb6⟩
                  have HR6 := Lib.hid (HR5.out.up hb6)
                  have HK6 := Lib.hid (HK.out.below hb6 (by simp))
                  clear hb6 HR5 HK
                  go_wp2_with fail
                  refine (HRD.out _ HR6.out).mono ?_
                  rintro e w7 ⟨rfl, rfl⟩
                  have c1' := HK6.out.cell 1
                  have c4' := HK6.out.cell 4
                  go_wp2
                  go_roundw
                  case rel => exact ⟨i + 1, by go_num, by omega, HR6⟩
                  case measure => simp [intOf]; omega
              · obtain rfl : i = xs.length := by omega
                have hii : ¬ (xs.length : Int) < (xs.length : Int) := by omega
                have hsp := (size_places H20.out H32.out xs.length (Nat.le_refl _)).1
                rw [List.take_length] at hsp
                have hul := used_le HDF.out.ok (Nat.le_trans HSM.out.1 (by decide))
                obtain ⟨hn1, hn2⟩ := HNM.out
                have hfo : E.folder.length ≤ 1000000 := by rw [kvNames_len] at hn2; omega
                have hus := HUS.out
                have HL := Lib.hid (listF HDF.out HDD.out hfo)
                have HUU := Lib.hid fun W (h : DF w W b E X xs) => usedF h HSM.out
                have HSZ := Lib.hid fun W (h : DF w W b E X xs) => wsize_any X cx xs W h.itm (by have := H20.out; omega)
                rw [hsp] at HSZ
                generalize (kvNames E.folder).length = m at *
                generalize ((placesF xs xs.length).map (szF xs)).sum = z at *
                generalize (placesF xs xs.length).length = n at *
                generalize hEu : E.used = u at *
                have hm1 : (n : Int) ≤ (m : Int) := by omega
                have hm2 : (m : Int) ≤ (n : Int) + 2 := by omega
                have hm3 : (z : Int) ≤ (u : Int) := by omega
                have hx1 : (decide ((n : Int) ≤ (m : Int))) = true := decide_eq_true hm1
                have hx2 : (decide ((m : Int) ≤ (n : Int) + 2)) = true := decide_eq_true hm2
                have hx3 : (decide ((z : Int) ≤ (u : Int))) = true := decide_eq_true hm3
                clear hsp hn1 hn2 hfo hus
                go_wp2_with fail
                refine HL.out.mono ?_
                rintro e w6 ⟨al, ac, rfl, hb6⟩
                have HD6 := Lib.hid (HDF.out.up hb6)
                clear hb6 HL HDF
                go_wp2_with fail
                refine (HUU.out _ HD6.out).mono ?_
                rintro e w7 ⟨rfl, hb7⟩
                have HD7 := Lib.hid (HD6.out.up hb7)
                clear hb7 HUU HD6
                go_wp2_with fail
                refine (HSZ.out _ HD7.out).mono ?_
                rintro e w8 ⟨rfl, hb8⟩
                have HD8 := Lib.hid (HD7.out.up hb8)
                clear hb8 HSZ HD7
                go_wp2
                go_ret
                exact ⟨rfl, HD8.out.bel⟩
theorem cfiles_card (l : List Itm) (v : Value) (bs : List ByteArray) (bv : Value) (ks : List Int) (kv : Value) (w : World) (he : Env w) (hp : ItmP w v l) (hq : BesP w bv bs) (hk : KsP w kv ks) :
    Calls Tryd.prog 7 #[v, bv, kv] w fun e w' => e = .returned (.bool true) ∧ Below w.heap.size w w' := by
  obtain ⟨A, c, rfl, hi, hl, hb, hn, hc⟩ := hp
  exact cfiles_all A c l bs bv ks kv w he hi hb hn hc hq hk
end Go.Proofs.YtaoejgnfoecpfaaDoor
