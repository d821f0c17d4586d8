/- The disk's state: plain data, and how it lies in memory. -/
import Derived.Test.YtjdkhainlcalbaaDk
import Derived.Test.YtjdkhainlcalbaaKr
namespace Go.Proofs.Ytjdkhainlcalbaa
open Go.RowKit Go.Maps

structure Fl where
  data : ByteArray
  safe : Nat
structure Sp where
  kind : Int
  src : ByteArray
  dst : ByteArray
  id : Nat
structure Dk where
  room : Int
  files : List Fl
  folder : List (ByteArray × Nat)
  sure : List (ByteArray × Nat)
  steps : List Sp
  arm : Int
  dead : Bool
/-- where it lies: the maps' blocks, the steps' slice, the files' blocks -/
structure Lay where
  bm : Nat
  sm : Nat
  v : Value
  bs : List Nat

def ptrV (b : Nat) : Value := .pointer (some ⟨b, 0, none⟩)
def fileV (bs : List Nat) (i : Nat) : Value := ptrV (bs.getD i 0)
def flCells (f : Fl) : Array Value := #[.string f.data, .int .i64 f.safe]
def stepCells (bs : List Nat) (s : Sp) : List Value := [.int .i64 s.kind, .string s.src, .string s.dst, fileV bs s.id]
def Dk.flAt (D : Dk) (i : Nat) : Fl := D.files.getD i ⟨ByteArray.empty, 0⟩

/-- ids are ids of files; names and bytes are no longer than may be -/
structure DkOk (D : Dk) : Prop where
  fol : ∀ p ∈ D.folder, p.2 < D.files.length
  sur : ∀ p ∈ D.sure, p.2 < D.files.length
  stp : ∀ s ∈ D.steps, s.id < D.files.length ∧ s.src.size ≤ 80 ∧ s.dst.size ≤ 80
  fap : kvApart D.folder
  sap : kvApart D.sure
  fln : D.folder.length ≤ D.files.length
  sln : D.sure.length ≤ D.files.length
  dat : ∀ f ∈ D.files, f.data.size ≤ 1073741824 ∧ f.safe ≤ f.data.size
  arm : -1 ≤ D.arm ∧ D.arm ≤ 9223372036854775807
  rm : 0 ≤ D.room ∧ D.room ≤ 1073741824
  nam : ∀ p ∈ D.folder, p.1.size ≤ 80
  snm : ∀ p ∈ D.sure, p.1.size ≤ 80

def foot (b : Nat) (L : Lay) : List Nat := b :: L.bm :: L.sm :: (L.v.ownBlock.toList ++ L.bs)

structure DiskAt (w : World) (b : Nat) (D : Dk) (L : Lay) : Prop where
  blk : BlockIs w b (dkCells D.room L.bm L.sm L.v D.arm D.dead) 114
  mp : ownsKV w Try.prog 9 L.bm (kvMap (fileV L.bs) D.folder)
  sf : ownsKV w Try.prog 9 L.sm (kvMap (fileV L.bs) D.sure)
  st : w.ownsRow 0 120 4 L.v D.steps.length (D.steps.flatMap (stepCells L.bs))
  len : L.bs.length = D.files.length
  fs : ∀ i, i < D.files.length → BlockIs w (L.bs.getD i 0) (flCells (D.flAt i)) 118
  nd : (foot b L).Nodup
  ok : DkOk D

theorem ownsRow_keep {w w' : World} {base : Nat} {e : TypeId} {size n : Nat} {v : Value} {xs : List Value} (h : w.ownsRow base e size v n xs) (hk : ∀ k, v.ownBlock = some k → w'.heap[k]? = w.heap[k]?) : w'.ownsRow base e size v n xs := by
  obtain ⟨h1, h2⟩ := h
  refine ⟨h1, ?_⟩
  rcases h2 with h2 | ⟨g, cap, cur, hv, hg, hh, r⟩
  · exact Or.inl h2
  · exact Or.inr ⟨g, cap, cur, hv, hg, by rw [hk g (by rw [hv]; rfl)]; exact hh, r⟩
theorem ownsRow_lt {w : World} {base : Nat} {e : TypeId} {size n : Nat} {v : Value} {xs : List Value} (h : w.ownsRow base e size v n xs) {k : Nat} (hk : v.ownBlock = some k) : base ≤ k ∧ k < w.heap.size := by
  obtain ⟨_, h2 | ⟨g, cap, cur, hv, hg, hh, _⟩⟩ := h
  · rw [h2.1] at hk; simp [Value.ownBlock] at hk
  · rw [hv] at hk
    simp [Value.ownBlock] at hk
    subst hk
    exact ⟨hg, (Array.getElem?_eq_some_iff.1 hh).1⟩

theorem DiskAt.flt {w : World} {b : Nat} {D : Dk} {L : Lay} (h : DiskAt w b D L) : ∀ k ∈ foot b L, k < w.heap.size := by
  intro k hk
  simp only [foot, List.mem_cons, List.mem_append, Option.mem_toList] at hk
  rcases hk with rfl | rfl | rfl | hk | hk
  · exact h.blk.lt
  · exact ownsKV_lt h.mp
  · exact ownsKV_lt h.sf
  · exact (ownsRow_lt h.st hk).2
  · obtain ⟨i, hi, rfl⟩ := List.getElem_of_mem hk
    have := (h.fs i (by rw [← h.len]; exact hi)).lt
    simpa [List.getD, List.getElem?_eq_getElem hi] using this

theorem DiskAt.keepB {w w' : World} {b : Nat} {D : Dk} {L : Lay} (h : DiskAt w b D L) (hk : ∀ k ∈ foot b L, w'.heap[k]? = w.heap[k]?) : DiskAt w' b D L where
  blk := h.blk.keep (hk b (by simp [foot]))
  mp := ownsKV_block h.mp (hk _ (by simp [foot]))
  sf := ownsKV_block h.sf (hk _ (by simp [foot]))
  st := ownsRow_keep h.st fun k hv => hk k (by simp [foot, hv])
  len := h.len
  fs := fun i hi => (h.fs i hi).keep (hk _ (by
    have hi' : i < L.bs.length := by rw [h.len]; exact hi
    simp [foot, List.getD, List.getElem?_eq_getElem hi']))
  nd := h.nd
  ok := h.ok

theorem DiskAt.keep {w w' : World} {b : Nat} {D : Dk} {L : Lay} {G : Nat → Prop} (h : DiskAt w b D L) (ht : Touch G w w') (hG : ∀ k ∈ foot b L, ¬ G k) : DiskAt w' b D L :=
  h.keepB fun k hk => ht.block k (h.flt k hk) (hG k hk)
theorem DiskAt.below {w w' : World} {b : Nat} {D : Dk} {L : Lay} (h : DiskAt w b D L) (ht : Below w.heap.size w w') : DiskAt w' b D L :=
  h.keepB fun k hk => ht.block k (h.flt k hk)

/-- all files' bytes -/
def Dk.used (D : Dk) : Nat := kvSum (fun i => (D.flAt i).data.size) D.folder

theorem kvSum_le {α : Type} (f : α → Nat) (l : List (ByteArray × α)) (m : Nat) (h : ∀ p ∈ l, f p.2 ≤ m) : kvSum f l ≤ l.length * m := by
  induction l with
  | nil => simp [kvSum]
  | cons x r ih =>
    have h1 := h x (by simp)
    have h2 := ih (fun p hp => h p (by simp [hp]))
    simp only [kvSum, List.map_cons, List.sum_cons, List.length_cons] at h2 ⊢
    rw [Nat.succ_mul]; omega
theorem flAt_le {D : Dk} (h : DkOk D) (i : Nat) : (D.flAt i).data.size ≤ 1073741824 ∧ (D.flAt i).safe ≤ (D.flAt i).data.size := by
  unfold Dk.flAt List.getD
  cases hf : D.files[i]? with
  | none => simp
  | some f => exact h.dat f (List.mem_of_getElem? hf)

theorem zero_ptr (w : World) : (zeroValue 115).run Try.prog w = .ok (.pointer none) w := by kernel_rfl

/-- how long the file is that a pointer leads to -/
def szV (w : World) (v : Value) : Nat := match v with
  | .pointer (some a) => match w.cell? a with
    | some (.string s) => s.size
    | _ => 0
  | _ => 0
theorem szV_file {w : World} {b : Nat} {D : Dk} {L : Lay} (h : DiskAt w b D L) {i : Nat} (hi : i < D.files.length) : szV w (fileV L.bs i) = (D.flAt i).data.size := by
  have hc := (h.fs i hi).cell 0
  simp only [flCells] at hc
  simp only [szV, fileV, ptrV]
  rw [hc]; rfl
theorem used_szV {w : World} {b : Nat} {D : Dk} {L : Lay} (h : DiskAt w b D L) : kvSum (szV w) (kvMap (fileV L.bs) D.folder) = D.used := by
  unfold kvSum Dk.used kvSum kvMap
  rw [List.map_map]
  congr 1
  exact List.map_congr_left fun p hp => szV_file h (h.ok.fol p hp)
theorem used_le {D : Dk} (h : DkOk D) (hn : D.files.length ≤ 1048576) : D.used ≤ 1125899906842624 := by
  have h1 := kvSum_le (fun i => (D.flAt i).data.size) D.folder 1073741824 (fun p _ => (flAt_le h p.2).1)
  have h2 := h.fln
  have h3 : D.folder.length * 1073741824 ≤ 1048576 * 1073741824 := Nat.mul_le_mul_right _ (by omega)
  unfold Dk.used
  omega

set_option maxRecDepth 100000 in
set_option maxHeartbeats 400000 in
theorem used_any (b : Nat) (D : Dk) (L : Lay) (w : World) (h : DiskAt w b D L) (hn : D.files.length ≤ 1048576) :
    Calls Try.prog 27 #[.pointer (some ⟨b, 0, none⟩)] w fun e w' => e = .returned (.int .i64 D.used) ∧ Below w.heap.size w w' := by
  have c1 : w.cell? ⟨b, 1, none⟩ = some (.map (some L.bm)) := h.blk.cell 1
  have hmp := h.mp
  have hul := used_le h.ok hn
  have H := Lib.hid h
  clear h
  go_enter Try.func27, Try.ntmps27
  go_wp2_with (first | (at_range; refine wpList_kvRange rfl _ 111 rfl Try.underlying9 Try.underlying111 rfl hmp ?_; intro w0 cnt0 hr0 hb0 hs0) | go_in)
  go_frame
  go_loopw [3] (fun n wr => ∃ (t : Nat) (todo : List (ByteArray × Value)) (cnt : Nat), n = .int .i64 t ∧ t ≤ D.used ∧ t + kvSum (szV w) todo = D.used ∧ rangesKV wr Try.prog 9 L.bm w.heap.size (kvMap (fileV L.bs) D.folder) todo cnt ∧ Below w.heap.size w wr) (fun _ wr => wr.rangeLeft L.bm w.heap.size)
  case atStart => exact ⟨0, _, _, rfl, Nat.zero_le _, by rw [Nat.zero_add]; exact used_szV H.out, hr0, hb0⟩
  case round =>
    obtain ⟨t, todo, cnt, rfl, htu, hsum, hrg, hb⟩ := hrel
    have Hsum := Lib.hid hsum
    clear hsum
    go_wp2_with (first | (at_next; refine wpList_kvNext rfl _ rfl Try.underlying9 rfl hrg ?_ ?_) | go_in)
    · intro htodo
      have Ht := Lib.hid htodo
      clear htodo
      go_wp2
      go_ret
      refine ⟨ret_int ?_, hb⟩
      have := Hsum.out
      rw [Ht.out] at this
      simp [kvSum] at this
      rw [this]
    · intro s v w' cnt' hmem hsl hrg' hlt hgr hsz hen
      obtain ⟨p, hp, hpv⟩ := List.mem_map.1 (hrg.sub _ hmem)
      simp only [Prod.mk.injEq] at hpv
      obtain ⟨hp1, rfl⟩ := hpv
      have hi := H.out.ok.fol p hp
      have hapart : kvApart todo := hrg.apart (kvApart_map.2 H.out.ok.fap)
      have hdel := kvSum_del (szV w) hapart hmem
      rw [szV_file H.out hi] at hdel
      have hblk : BlockIs w' (L.bs.getD p.2 0) (flCells (D.flAt p.2)) 118 := by
        have h1 := H.out.fs p.2 hi
        refine h1.keep ?_
        rw [hgr.block _ (Nat.lt_of_lt_of_le h1.lt hb.size) (fun e => Nat.lt_irrefl _ (Option.some.inj e ▸ h1.lt)), hb.block _ h1.lt]
      have hc : w'.cell? ⟨L.bs.getD p.2 0, 0, none⟩ = some (.string (D.flAt p.2).data) := hblk.cell 0
      have hb' : Below w.heap.size w w' := hb.grown hgr hb.size (by simp)
      have hz := (flAt_le H.out.ok p.2).1
      have hs2 := Hsum.out
      have hle : t + (D.flAt p.2).data.size ≤ D.used := by omega
      have HD := Lib.hid hdel
      have HP := Lib.hid hp1
      clear hdel hs2 hp1
      unfold fileV ptrV at hen ⊢
      generalize L.bs.getD p.2 0 = c at hc hen hblk ⊢
      go_wp2
      go_roundw
      case rel =>
        refine ⟨t + (D.flAt p.2).data.size, _, cnt', by go_num, hle, ?_, hrg', hb'⟩
        have h1 := Hsum.out
        have h2 := HD.out
        omega
      case measure => rw [hrg'.size, hrg.size]; exact hlt
end Go.Proofs.Ytjdkhainlcalbaa
