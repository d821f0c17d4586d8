/- The disk's Read, Sync, New. The disk's Remove and Rename. A crash: what keeps says, and where it points. A disk's calls and their bounds (stand-in at this seat: no log here). -/
import Derived.Test.YtpeepdkeicgkiaaGreatDoorZo8
import Derived.Shelf.SlMaps.Clone
namespace Go.Proofs.YtpeepdkeicgkiaaGreatDoor
set_option linter.unusedVariables false
set_option linter.unusedSimpArgs false
set_option linter.unusedSectionVars false
open Go.RowKit Go.Maps

def Dk.sync (D : Dk) (name : ByteArray) : Dk × Int :=
  if D.alive.dead = true then (D.alive, 10) else
  match kvGet D.folder name with
  | some i => ({ D.alive with files := D.files.set i { data := (D.flAt i).data, safe := (D.flAt i).data.size } }, 0)
  | none => (D.alive, 7)
def Dk.read (D : Dk) (name : ByteArray) : ByteArray × Int :=
  if D.dead = true then (⟨#[]⟩, 10) else
  match kvGet D.folder name with
  | some i => ((D.flAt i).data, 0)
  | none => (⟨#[]⟩, 7)
theorem ba_lenD {s : ByteArray} (h : s.size ≤ 9223372036854775807) : s.size ≤ maxLen := by unfold maxLen; omega
theorem dkSame {b : Nat} {D : Dk} {L : Lay} {w w' : World} (h1 : DiskAt w' b D L) (h2 : Touch (· = b) w w') : DkPost b L D w w' :=
  ⟨L, h1, h2.mono (fun i _ hi => by simp [foot, hi]), fun k hk => Or.inl hk⟩
theorem bs_foot {b : Nat} {L : Lay} {i : Nat} (h : i < L.bs.length) : L.bs.getD i 0 ∈ foot b L := by
  simp only [foot, List.mem_cons, List.mem_append]; exact Or.inr (Or.inr (Or.inr (Or.inr (getD_mem h))))

set_option maxRecDepth 100000 in
set_option maxHeartbeats 400000 in
theorem read_any (b : Nat) (D : Dk) (L : Lay) (name : ByteArray) (w : World) (h : DiskAt w b D L) (hs : name.size ≤ 9223372036854775807) :
    Calls Tryz.prog 24 #[.pointer (some ⟨b, 0, none⟩), .string name] w fun e w' => e = .returned (.tuple #[.string (D.read name).1, .int .i64 (D.read name).2]) ∧ w = w' := by
  have c1 : w.cell? ⟨b, 1, none⟩ = some (.map (some L.bm)) := h.blk.cell 1
  have hsz := ba_lenD hs
  have hz0 := fun w => zero_ptr w
  have hmp := h.mp
  cases hd : D.dead with
  | true =>
    have c5 : w.cell? ⟨b, 5, none⟩ = some (.bool true) := by have := h.blk.cell 5; rw [hd] at this; exact this
    have e : D.read name = (⟨#[]⟩, 10) := by unfold Dk.read; rw [if_pos hd]
    rw [e]
    clear e hd h
    go_enter Tryz.func24, Tryz.ntmps24
    go_wp2
    go_ret2
    exact ⟨rfl, rfl⟩
  | false =>
    have c5 : w.cell? ⟨b, 5, none⟩ = some (.bool false) := by have := h.blk.cell 5; rw [hd] at this; exact this
    cases hg : kvGet D.folder name with
    | none =>
      have hget := kvGet_none (L := L) hg
      have e : D.read name = (⟨#[]⟩, 7) := by unfold Dk.read; rw [if_neg (by rw [hd]; simp), hg]
      rw [e]
      clear e hd h hg
      go_enter Tryz.func24, Tryz.ntmps24
      go_wp2_with (first
          | (at_lookup; refine wpList_kvNone rfl _ _ 69 rfl Tryz.underlying9 Tryz.underlying69 (hz0 _) rfl hmp rfl hsz hget ?_)
          | go_in)
      go_ret2
      exact ⟨rfl, rfl⟩
    | some i =>
      obtain ⟨hi, hget⟩ := kvGet_found h hg
      have e : D.read name = ((D.flAt i).data, 0) := by unfold Dk.read; rw [if_neg (by rw [hd]; simp), hg]
      rw [e]
      have d0 : w.cell? ⟨L.bs.getD i 0, 0, none⟩ = some (.string (D.flAt i).data) := (h.fs i hi).cell 0
      clear e hd h hg
      unfold fileV ptrV at hget
      generalize L.bs.getD i 0 = c at d0 hget
      go_enter Tryz.func24, Tryz.ntmps24
      go_wp2_with (first
          | (at_lookup; refine wpList_kvFound rfl _ _ 69 rfl Tryz.underlying9 Tryz.underlying69 (hz0 _) rfl hmp rfl hsz hget ?_)
          | go_in)
      go_ret2
      exact ⟨rfl, rfl⟩

set_option maxRecDepth 100000 in
set_option maxHeartbeats 400000 in
theorem sync_any (b : Nat) (D : Dk) (L : Lay) (name : ByteArray) (w : World) (h : DiskAt w b D L) (hs : name.size ≤ 9223372036854775807) :
    Calls Tryz.prog 56 #[.pointer (some ⟨b, 0, none⟩), .string name] w fun e w' => e = .returned (.int .i64 (D.sync name).2) ∧ DkPost b L (D.sync name).1 w w' := by
  have hsz := ba_lenD hs
  have hz0 := fun w => zero_ptr w
  have hc := alive_at b D L w h
  clear h
  cases hd : D.alive.dead with
  | true =>
    rw [hd] at hc
    have Hc := Lib.hid hc
    have e : D.sync name = (D.alive, 10) := by unfold Dk.sync; rw [if_pos hd]
    rw [e]
    clear e hd hc
    go_enter Tryz.func56, Tryz.ntmps56
    go_wp2_with (go_at_call 86; refine Hc.out.mono ?_; rintro e w' ⟨rfl, h1, ht⟩)
    go_ret
    exact ⟨rfl, dkSame h1 ht⟩
  | false =>
    rw [hd] at hc
    have Hc := Lib.hid hc
    cases hg : kvGet D.folder name with
    | none =>
      have hget := kvGet_none (L := L) hg
      have e : D.sync name = (D.alive, 7) := by unfold Dk.sync; rw [if_neg (by rw [hd]; simp), hg]
      rw [e]
      clear e hd hg hc
      go_enter Tryz.func56, Tryz.ntmps56
      go_wp2_with (first
        | (go_at_call 86; refine Hc.out.mono ?_; rintro e w' ⟨rfl, h1, ht⟩;
            have c1 : w'.cell? ⟨b, 1, none⟩ = some (.map (some L.bm)) := h1.blk.cell 1; have hmp := h1.mp)
        | (at_lookup; refine wpList_kvNone rfl _ _ 69 rfl Tryz.underlying9 Tryz.underlying69 (hz0 _) rfl hmp rfl hsz hget ?_)
        | go_in)
      go_ret
      exact ⟨rfl, dkSame h1 ht⟩
    | some i =>
      have e : D.sync name = ({ D.alive with files := D.alive.files.set i { data := (D.flAt i).data, safe := (D.flAt i).data.size } }, 0) := by unfold Dk.sync; rw [if_neg (by rw [hd]; simp), hg]; rfl
      rw [e]
      have HG := Lib.hid hg
      clear e hd hc hg
      go_enter Tryz.func56, Tryz.ntmps56
      go_wp2_with fail
      refine Hc.out.mono ?_
      rintro e w' ⟨rfl, h1, ht⟩
      have c1 : w'.cell? ⟨b, 1, none⟩ = some (.map (some L.bm)) := h1.blk.cell 1
      have hmp := h1.mp
      obtain ⟨hi, hget⟩ := kvGet_found h1 (show kvGet D.alive.folder name = some i from HG.out)
      have hblk := h1.fs i hi
      have d0 : w'.cell? ⟨L.bs.getD i 0, 0, none⟩ = some (.string (D.flAt i).data) := hblk.cell 0
      have d1 : w'.cell? ⟨L.bs.getD i 0, 1, none⟩ = some (.int .i64 (D.flAt i).safe) := hblk.cell 1
      have f1 : w'.frozen? ⟨L.bs.getD i 0, 1, none⟩ = false := hblk.free 1
      have hfin : DkPost b L { D.alive with files := D.alive.files.set i { data := (D.flAt i).data, safe := (D.flAt i).data.size } } w (w'.setCell ⟨L.bs.getD i 0, 1, none⟩ (.int .i64 (D.flAt i).data.size)) :=
        ⟨L, h1.setFile hi { data := (D.flAt i).data, safe := (D.flAt i).data.size } ⟨(flAt_le h1.ok i).1, Nat.le_refl _⟩ (hblk.set 1 (.int .i64 (D.flAt i).data.size)) (Touch.setc _ _ _ _),
          (ht.mono (fun k _ hk => by simp [foot, hk])).trans (Touch.setc _ _ _ _) (fun k _ hk => by subst hk; exact bs_foot (by rw [h1.len]; exact hi)), fun k hk => Or.inl hk⟩
      have HF := Lib.hid hfin
      clear hfin hblk
      unfold fileV ptrV at hget
      generalize L.bs.getD i 0 = c at d0 d1 f1 hget HF
      go_wp2_with (first
          | (at_lookup; refine wpList_kvFound rfl _ _ 69 rfl Tryz.underlying9 Tryz.underlying69 (hz0 _) rfl hmp rfl hsz hget ?_)
          | go_in)
      go_ret
      exact ⟨rfl, HF.out⟩

theorem run_map_nil_eq {P : Program} (w : World) (t k e : TypeId) (p : Option Nat) (h : P.underlying t = some (.map k e)) :
    (binOp .eql t (.map p) (.map none)).run P w = .ok (.bool p.isNone) w := run_eql_map_nil_sl w t k e p h

set_option maxRecDepth 100000 in
/-- maps.Clone of the disk's map. -/
theorem clone_any (m : Nat) (l : List (ByteArray × Value)) (w : World) (h : ownsKV w Tryz.prog 9 m l) :
    Calls Tryz.prog 48 #[.map (some m)] w fun e w' => e = .returned (.map (some w.heap.size)) ∧ ownsKV w' Tryz.prog 9 w.heap.size l ∧ Below w.heap.size w w' ∧ w'.heap.size = w.heap.size + 1 := by
  obtain ⟨es, clock, hb, F, hs, hD⟩ := h
  have hq := fun w => run_map_nil_eq (P := Tryz.prog) w 69 _ _ (some m) Tryz.underlying69
  have H := Lib.hid (And.intro F (And.intro hs hD))
  have HB := Lib.hid hb
  clear F hs hD hb
  go_enter Tryz.func48, Tryz.ntmps48
  go_wp2
  rw [run_callFunc_extern Tryz.func87 (by kernel_rfl) (by kernel_rfl) (by kernel_rfl) (e := Extern.MapsClone.clone) (by kernel_rfl), run_maps_clone_sl w 69 HB.out]
  simp only [Result.andThen]
  rw [Oper.upon_value]
  go_wp2
  rw [run_typeAssert_map_sl _ 69 20 _ _ _ Tryz.underlying69]
  simp only [Result.andThen]
  rw [Oper.upon_value]
  go_wp2
  go_ret
  exact ⟨rfl, ⟨es, clock, (MapKept.heap_alloc w _).1, H.out.1, H.out.2.1, H.out.2.2⟩, (Below.refl _ w).alloc (Nat.le_refl _) _, by simp⟩

def Dk.settle (D : Dk) : Dk × Int := if D.alive.dead = true then (D.alive, 10) else ({ D.alive with sure := D.folder, steps := [] }, 0)

set_option maxRecDepth 100000 in
set_option maxHeartbeats 400000 in
theorem settle_any (b : Nat) (D : Dk) (L : Lay) (w : World) (h : DiskAt w b D L) :
    Calls Tryz.prog 46 #[.pointer (some ⟨b, 0, none⟩)] w fun e w' => e = .returned (.int .i64 D.settle.2) ∧ DkPost b L D.settle.1 w w' := by
  have hc := alive_at b D L w h
  clear h
  cases hd : D.alive.dead with
  | true =>
    rw [hd] at hc
    have Hc := Lib.hid hc
    have e : D.settle = (D.alive, 10) := by unfold Dk.settle; rw [if_pos hd]
    rw [e]
    clear e hd hc
    go_enter Tryz.func46, Tryz.ntmps46
    go_wp2_with (go_at_call 86; refine Hc.out.mono ?_; rintro e w' ⟨rfl, h1, ht⟩)
    go_ret
    exact ⟨rfl, dkSame h1 ht⟩
  | false =>
    rw [hd] at hc
    have Hc := Lib.hid hc
    have e : D.settle = ({ D.alive with sure := D.alive.folder, steps := [] }, 0) := by unfold Dk.settle; rw [if_neg (by rw [hd]; simp)]; rfl
    rw [e]
    clear e hd hc
    go_enter Tryz.func46, Tryz.ntmps46
    go_wp2_with fail
    refine Hc.out.mono ?_
    rintro e w' ⟨rfl, h1, ht⟩
    have c1 : w'.cell? ⟨b, 1, none⟩ = some (.map (some L.bm)) := h1.blk.cell 1
    go_wp2_with fail
    refine (clone_any L.bm _ _ h1.mp).mono ?_
    rintro e w2 ⟨rfl, hsm, hb, hz⟩
    have h2 := h1.below hb
    have c2 : w2.cell? ⟨b, 2, none⟩ = some (.map (some L.sm)) := h2.blk.cell 2
    have f2 : w2.frozen? ⟨b, 2, none⟩ = false := h2.blk.free 2
    have c3 : w2.cell? ⟨b, 3, none⟩ = some L.v := h2.blk.cell 3
    have f3 : w2.frozen? ⟨b, 3, none⟩ = false := h2.blk.free 3
    have H1 := Lib.hid h1
    have H2 := Lib.hid h2
    have HZ := Lib.hid hz
    clear h1 h2 hz
    go_wp2
    go_ret
    refine ⟨rfl, ?_⟩
    generalize hw3 : (w2.setCell ⟨b, 2, none⟩ (.map (some w'.heap.size))).setCell ⟨b, 3, none⟩ (.slice none 0 0) = w3
    have t3 : Touch (· = b) w2 w3 := by rw [← hw3]; exact (Touch.setc _ _ _ _).trans (Touch.setc _ _ _ _) (fun _ _ h => h)
    have hbl : BlockIs w3 b (dkCells D.alive.room L.bm w'.heap.size (.slice none 0 0) D.alive.arm D.alive.dead) 72 := by
      have := (H2.out.blk.set 2 (.map (some w'.heap.size))).set 3 (.slice none 0 0)
      rw [hw3] at this; exact this
    have hne := nd_ne H2.out.nd
    have hlt := H1.out.flt
    have hk : ∀ k, k ∈ L.bm :: L.bs ∨ k = w'.heap.size → w3.heap[k]? = w2.heap[k]? := by
      intro k hk
      have hbl := hlt b (by simp [foot])
      have hzz := HZ.out
      rcases hk with hk | rfl
      · have hkf : k ∈ foot b L := by simp only [foot, List.mem_cons, List.mem_append] at hk ⊢; rcases hk with hk | hk <;> simp [hk]
        exact t3.block k (by have := hlt k hkf; omega) (hne k (by simp only [List.mem_cons, List.mem_append] at hk ⊢; rcases hk with hk | hk <;> simp [hk]))
      · exact t3.block _ (by omega) (by omega)
    refine ⟨⟨L.bm, w'.heap.size, .slice none 0 0, L.bs⟩, ?_, ?_, ?_⟩
    · exact
      { blk := hbl
        mp := ownsKV_block H2.out.mp (hk _ (by simp))
        sf := ownsKV_block hsm (hk _ (Or.inr rfl))
        st := ⟨rfl, Or.inl ⟨rfl, rfl⟩⟩
        len := H2.out.len
        fs := fun i hi => (H2.out.fs i hi).keep (hk _ (Or.inl (List.mem_cons_of_mem _ (getD_mem (by rw [H2.out.len]; exact hi)))))
        nd := by
          have hnd := H1.out.nd
          have hbl := hlt b (by simp [foot])
          have hbm := hlt L.bm (by simp [foot])
          have hbs : ∀ k ∈ L.bs, k < w'.heap.size := fun k hk => hlt k (by simp [foot, hk])
          simp only [foot, List.nodup_cons, List.nodup_append, List.mem_cons, List.mem_append, Option.mem_toList, not_or] at hnd
          simp only [foot, Value.ownBlock, Option.toList, List.nil_append, List.nodup_cons, List.mem_cons, not_or]
          exact ⟨⟨hnd.1.1, by omega, hnd.1.2.2.2⟩, ⟨by omega, hnd.2.1.2.2⟩, fun h => Nat.lt_irrefl _ (hbs _ h), hnd.2.2.2.2.1⟩
        ok := ⟨H2.out.ok.fol, H2.out.ok.fol, fun s hs => by simp at hs, H2.out.ok.fap, H2.out.ok.fap, H2.out.ok.fln, H2.out.ok.fln, H2.out.ok.dat, H2.out.ok.arm, H2.out.ok.rm, H2.out.ok.nam, H2.out.ok.nam⟩ }
    · exact ((ht.mono (fun k _ hk => by simp [foot, hk])).trans (Touch.of_below (fun _ => False) hb) (fun _ _ h => h.elim)).trans t3 (fun k _ hk => by simp [foot, hk])
    · intro k hk
      have hk : k = b ∨ k = L.bm ∨ k = w'.heap.size ∨ k ∈ L.bs := by
        simpa only [foot, List.mem_cons, List.mem_append, Value.ownBlock, Option.mem_toList, reduceCtorEq, false_or] using hk
      have hw := ht.size
      rcases hk with rfl | rfl | rfl | hk
      · exact Or.inl (by simp [foot])
      · exact Or.inl (by simp [foot])
      · exact Or.inr hw
      · exact Or.inl (by simp [foot, hk])

/-- a new disk -/
def dkNew (room : Int) : Dk := ⟨room, [], [], [], [], -1, false⟩

set_option maxRecDepth 100000 in
set_option maxHeartbeats 400000 in
theorem new_any (room : Int) (w : World) (h : 0 ≤ room ∧ room ≤ 1073741824) :
    Calls Tryz.prog 7 #[.int .i64 room] w fun e w' => ∃ b L, e = .returned (.tuple #[.pointer (some ⟨b, 0, none⟩), .int .i64 0]) ∧ DiskAt w' b (dkNew room) L ∧ Below w.heap.size w w' ∧ ∀ k ∈ foot b L, w.heap.size ≤ k := by
  have hmm := @run_makeMap Tryz.prog
  obtain ⟨ha, hb⟩ := h
  go_enter Tryz.func7, Tryz.ntmps7
  go_wp2
  go_ret2
  refine ⟨w.heap.size + 2, ⟨w.heap.size, w.heap.size + 1, .slice none 0 0, []⟩, rfl, ?_, ?_, ?_⟩
  · have hm := ownsKV_made w Tryz.prog 9
    have hm2 := ownsKV_made (w.alloc (.map #[] 0)) Tryz.prog 9
    simp only [World.size_alloc] at hm2
    exact
    { blk := by have := BlockIs.new ((w.alloc (.map #[] 0)).alloc (.map #[] 0)) (dkCells room w.heap.size (w.heap.size + 1) (.slice none 0 0) (-1) false) 72; simp only [World.size_alloc] at this; exact this
      mp := ownsKV_block hm (by rw [Below.heap_alloc _ _ _ (by simp; omega), Below.heap_alloc _ _ _ (by simp)])
      sf := ownsKV_block hm2 (by rw [Below.heap_alloc _ _ _ (by simp)])
      st := ⟨rfl, Or.inl ⟨rfl, rfl⟩⟩
      len := rfl
      fs := fun i hi => by simp [dkNew] at hi
      nd := by simp [foot, Value.ownBlock]
      ok := ⟨fun p hp => by simp [dkNew] at hp, fun p hp => by simp [dkNew] at hp, fun p hp => by simp [dkNew] at hp, List.Pairwise.nil, List.Pairwise.nil, Nat.le_refl _, Nat.le_refl _, fun p hp => by simp [dkNew] at hp, by simp [dkNew], ⟨ha, hb⟩, fun p hp => by simp [dkNew] at hp, fun p hp => by simp [dkNew] at hp⟩ }
  · exact (((Below.refl _ _).alloc (Nat.le_refl _) _).alloc (by simp) _).alloc (by simp; omega) _
  · intro k hk
    have hk : k = w.heap.size + 2 ∨ k = w.heap.size ∨ k = w.heap.size + 1 := by
      simpa [foot, Value.ownBlock] using hk
    omega
theorem new_bad (room : Int) (w : World) (h : room < 0 ∨ (0 ≤ room ∧ 1073741824 < room)) :
    Calls Tryz.prog 7 #[.int .i64 room] w fun e w' => e = .returned (.tuple #[.pointer none, .int .i64 1]) ∧ w = w' := by
  rcases h with h | ⟨h1, h2⟩
  · go_enter Tryz.func7, Tryz.ntmps7
    go_wp2
    go_ret2
    exact ⟨rfl, rfl⟩
  · go_enter Tryz.func7, Tryz.ntmps7
    go_wp2
    go_ret2
    exact ⟨rfl, rfl⟩
end Go.Proofs.YtpeepdkeicgkiaaGreatDoor
namespace Go.Proofs.YtpeepdkeicgkiaaGreatDoor
set_option linter.unusedVariables false
set_option linter.unusedSimpArgs false
set_option linter.unusedSectionVars false
open Go.RowKit Go.Maps

def Dk.remove (D : Dk) (name : ByteArray) : Dk × Int :=
  if D.alive.dead = true then (D.alive, 10) else
  match kvGet D.folder name with
  | some i => ({ D.alive with folder := kvDel D.folder name, steps := D.steps ++ [⟨3, name, name, i⟩] }, 0)
  | none => (D.alive, 7)
def Dk.rename (D : Dk) (src dst : ByteArray) : Dk × Int :=
  if D.alive.dead = true then (D.alive, 10) else
  match kvGet D.folder src with
  | some i => if dkName dst = false then (D.alive, 11) else ({ D.alive with folder := kvPut (kvDel D.folder src) dst i, steps := D.steps ++ [⟨2, src, dst, i⟩] }, 0)
  | none => (D.alive, 7)

/-- The folder is another one, and there is a step more. -/
theorem DiskAt.stepped {w w' : World} {b : Nat} {D : Dk} {L : Lay} (h : DiskAt w b D L) {g cap : Nat} (folder : List (ByteArray × Nat)) (s : Sp) (hs : s.id < D.files.length ∧ s.src.size ≤ 80 ∧ s.dst.size ≤ 80)
    (hf : (∀ p ∈ folder, p.2 < D.files.length) ∧ kvApart folder ∧ folder.length ≤ D.folder.length ∧ ∀ p ∈ folder, p.1.size ≤ 80) (hg5 : L.v.ownBlock = some g ∨ w.heap.size ≤ g)
    (hblk : BlockIs w' b (dkCells D.room L.bm L.sm (.slice (some ⟨g, 0, none⟩) (D.steps.length + 1) cap) D.arm D.dead) 72)
    (hmp : ownsKV w' Tryz.prog 9 L.bm (kvMap (fileV L.bs) folder))
    (hst : w'.ownsRow 0 93 4 (.slice (some ⟨g, 0, none⟩) (D.steps.length + 1) cap) (D.steps.length + 1) (D.steps.flatMap (stepCells L.bs) ++ stepCells L.bs s))
    (hrest : ∀ k ∈ L.sm :: L.bs, w'.heap[k]? = w.heap[k]?) :
    DiskAt w' b { D with folder := folder, steps := D.steps ++ [s] } ⟨L.bm, L.sm, .slice (some ⟨g, 0, none⟩) (D.steps.length + 1) cap, L.bs⟩ := by
  have hlt := h.flt
  have hid : ∀ i, i < D.files.length → i < L.bs.length := fun i hi => by rw [h.len]; exact hi
  exact
  { blk := hblk
    mp := hmp
    sf := ownsKV_block h.sf (hrest _ (by simp))
    st := by
      have e : (D.steps ++ [s]).flatMap (stepCells L.bs) = D.steps.flatMap (stepCells L.bs) ++ stepCells L.bs s := by
        rw [List.flatMap_append]; simp
      simp only [List.length_append, List.length_cons, List.length_nil]
      rw [e]; exact hst
    len := h.len
    fs := fun i hi => (h.fs i hi).keep (hrest _ (List.mem_cons_of_mem _ (getD_mem (hid i hi))))
    nd := by
      have hnd := h.nd
      have hb := hlt b (by simp [foot])
      have hbm := hlt L.bm (by simp [foot])
      have hsm := hlt L.sm (by simp [foot])
      have hbs : ∀ k ∈ L.bs, k < w.heap.size := fun k hk => hlt k (by simp [foot, hk])
      simp only [foot, List.nodup_cons, List.nodup_append, List.mem_cons, List.mem_append, Option.mem_toList, not_or] at hnd
      have hgg : g ≠ b ∧ g ≠ L.bm ∧ g ≠ L.sm ∧ ∀ k ∈ L.bs, g ≠ k := by
        rcases hg5 with e | e1
        · exact ⟨fun x => hnd.1.2.2.1 (x ▸ e), fun x => hnd.2.1.2.1 (x ▸ e), fun x => hnd.2.2.1.1 (x ▸ e), fun k hk => hnd.2.2.2.2.2 g e k hk⟩
        · exact ⟨by omega, by omega, by omega, fun k hk => by have := hbs k hk; omega⟩
      simp only [foot, Value.ownBlock, Option.toList, List.singleton_append, List.nodup_cons, List.mem_cons, not_or]
      exact ⟨⟨hnd.1.1, hnd.1.2.1, fun x => hgg.1 x.symm, hnd.1.2.2.2⟩, ⟨hnd.2.1.1, fun x => hgg.2.1 x.symm, hnd.2.1.2.2⟩, ⟨fun x => hgg.2.2.1 x.symm, hnd.2.2.1.2⟩, fun x => hgg.2.2.2 _ x rfl, hnd.2.2.2.2.1⟩
    ok :=
      { fol := hf.1
        sur := h.ok.sur
        stp := fun t ht => by
          rcases List.mem_append.1 ht with ht | ht
          · exact h.ok.stp t ht
          · simp at ht; subst ht; exact hs
        fap := hf.2.1
        sap := h.ok.sap
        fln := Nat.le_trans hf.2.2.1 h.ok.fln
        sln := h.ok.sln
        dat := h.ok.dat
        arm := h.ok.arm
        rm := h.ok.rm
        nam := hf.2.2.2
        snm := h.ok.snm } }

/-- What is left to say behind a step: worlds w4 (the map is written), w5 (the steps are appended to), w6 (the slice is stored). -/
theorem step_fin {b : Nat} {D : Dk} {L : Lay} {w wc w4 w5 : World} (H3 : DiskAt wc b D L) (HT : Touch (· ∈ foot b L) w wc) (hT4 : Touch (· = L.bm) wc w4) {g5 cap5 : Nat}
    (folder : List (ByteArray × Nat)) (s : Sp) (hs : s.id < D.files.length ∧ s.src.size ≤ 80 ∧ s.dst.size ≤ 80)
    (hf : (∀ p ∈ folder, p.2 < D.files.length) ∧ kvApart folder ∧ folder.length ≤ D.folder.length ∧ ∀ p ∈ folder, p.1.size ≤ 80)
    (hmp4 : ownsKV w4 Tryz.prog 9 L.bm (kvMap (fileV L.bs) folder))
    (hst5 : w5.ownsRow 0 93 4 (.slice (some ⟨g5, 0, none⟩) (D.steps.length + 1) cap5) (D.steps.length + 1) (D.steps.flatMap (stepCells L.bs) ++ stepCells L.bs s))
    (hgr5 : w4.grownBy w5 L.v.ownBlock) (hloc5 : L.v.ownBlock = some g5 ∨ g5 = w4.heap.size + 1) :
    DkPost b L { D with folder := folder, steps := D.steps ++ [s] } w (w5.setCell ⟨b, 3, none⟩ (.slice (some ⟨g5, 0, none⟩) (D.steps.length + 1) cap5)) := by
  have hlt := H3.flt
  have hnd := H3.nd
  simp only [foot, List.nodup_cons, List.nodup_append, List.mem_cons, List.mem_append, Option.mem_toList, not_or] at hnd
  have hbl := hlt b (by simp [foot])
  have hbm := hlt L.bm (by simp [foot])
  have hn4 := hT4.size
  have hn5 := hgr5.size
  have hg5 : L.v.ownBlock = some g5 ∨ wc.heap.size ≤ g5 := hloc5.imp id fun e => by omega
  have hgb : g5 ≠ b := by
    rcases hg5 with e | e
    · exact fun x => hnd.1.2.2.1 (x ▸ e)
    · omega
  have t6 := Touch.setc w5 b 3 (.slice (some ⟨g5, 0, none⟩) (D.steps.length + 1) cap5)
  have hb5 : BlockIs w5 b (dkCells D.room L.bm L.sm L.v D.arm D.dead) 72 := H3.blk.keep (by
    rw [hgr5.block b (by omega) (fun e => hnd.1.2.2.1 e.symm), hT4.block b hbl (fun e => hnd.1.1 e)])
  have hold : ∀ k, k < wc.heap.size → k ≠ b → k ≠ L.bm → L.v.ownBlock ≠ some k → (w5.setCell ⟨b, 3, none⟩ (.slice (some ⟨g5, 0, none⟩) (D.steps.length + 1) cap5)).heap[k]? = wc.heap[k]? := by
    intro k h1 h2 h3 h4
    rw [t6.block k (by omega) h2, hgr5.block k (by omega) (fun e => h4 e.symm), hT4.block k h1 h3]
  refine ⟨_, H3.stepped (g := g5) (cap := cap5) folder s hs hf hg5 ?_ ?_ ?_ ?_, ?_, ?_⟩
  · exact hb5.set 3 (.slice (some ⟨g5, 0, none⟩) (D.steps.length + 1) cap5)
  · exact ownsKV_block hmp4 (by rw [t6.block L.bm (by omega) (fun e => hnd.1.1 e.symm), hgr5.block L.bm (by omega) (fun e => hnd.2.1.2.1 e.symm)])
  · refine ownsRow_keep hst5 fun k hk => ?_
    obtain rfl : g5 = k := Option.some.inj hk
    exact t6.block g5 (ownsRow_lt hst5 (k := g5) rfl).2 hgb
  · intro k hk
    have hkl := hlt k (by simp only [foot, List.mem_cons, List.mem_append] at hk ⊢; rcases hk with hk | hk <;> simp [hk])
    rcases List.mem_cons.1 hk with rfl | hk
    · exact hold _ hkl (fun e => hnd.1.2.1 e.symm) (fun e => hnd.2.1.1 e.symm) (fun e => hnd.2.2.1.1 e)
    · exact hold _ hkl (fun e => hnd.1.2.2.2 (e ▸ hk)) (fun e => hnd.2.1.2.2 (e ▸ hk)) (fun e => hnd.2.2.2.2.2 k e k hk rfl)
  · exact ((HT.trans hT4 (fun i _ hi => by simp [foot, hi])).trans (Touch.of_grown hgr5) (fun i _ hi => own_foot hi)).trans t6 (fun i _ hi => by simp [foot, hi])
  · intro k hk
    have hw := HT.size
    have hk : k = b ∨ k = L.bm ∨ k = L.sm ∨ some g5 = some k ∨ k ∈ L.bs := by
      simpa only [foot, List.mem_cons, List.mem_append, Value.ownBlock, Option.mem_toList] using hk
    rcases hk with rfl | rfl | rfl | hk | hk
    · exact Or.inl (by simp [foot])
    · exact Or.inl (by simp [foot])
    · exact Or.inl (by simp [foot])
    · obtain rfl := Option.some.inj hk
      rcases hg5 with e | e
      · exact Or.inl (own_foot e)
      · exact Or.inr (by omega)
    · exact Or.inl (by simp [foot, hk])

theorem dk_facts {w : World} {b : Nat} {D : Dk} {L : Lay} (h : DiskAt w b D L) : L.bm ≠ b ∧ ∀ k, L.v.ownBlock = some k → k ≠ b ∧ k ≠ L.bm := by
  have hnd := h.nd
  simp only [foot, List.nodup_cons, List.nodup_append, List.mem_cons, List.mem_append, Option.mem_toList, not_or] at hnd
  exact ⟨fun e => hnd.1.1 e.symm, fun k hk => ⟨fun e => hnd.1.2.2.1 (e ▸ hk), fun e => hnd.2.1.2.1 (e ▸ hk)⟩⟩
/-- behind a write of the folder's map: the disk's cells and its steps -/
theorem turned_facts {w w4 : World} {b : Nat} {D : Dk} {L : Lay} (h : DiskAt w b D L) (ht : Touch (· = L.bm) w w4) :
    BlockIs w4 b (dkCells D.room L.bm L.sm L.v D.arm D.dead) 72 ∧ w4.ownsRow 0 93 4 L.v D.steps.length (D.steps.flatMap (stepCells L.bs)) :=
  ⟨h.blk.keep (ht.block _ h.blk.lt (fun e => (dk_facts h).1 e.symm)), ownsRow_keep h.st fun k hv => ht.block k (ownsRow_lt h.st hv).2 ((dk_facts h).2 k hv).2⟩

set_option maxRecDepth 100000 in
set_option maxHeartbeats 800000 in
theorem remove_any (b : Nat) (D : Dk) (L : Lay) (name : ByteArray) (w : World) (h : DiskAt w b D L) (hs : name.size ≤ 9223372036854775807) (hst0 : D.steps.length ≤ 1048576) :
    Calls Tryz.prog 45 #[.pointer (some ⟨b, 0, none⟩), .string name] w fun e w' => e = .returned (.int .i64 (D.remove name).2) ∧ DkPost b L (D.remove name).1 w w' := by
  have hsz := ba_lenD hs
  have hz0 := fun w => zero_ptr w
  have hnm := fun i (hg : kvGet D.folder name = some i) => h.ok.nam _ (kvGet_mem hg)
  have hc := alive_at b D L w h
  clear h
  cases hd : D.alive.dead with
  | true =>
    rw [hd] at hc
    have Hc := Lib.hid hc
    have e : D.remove name = (D.alive, 10) := by unfold Dk.remove; rw [if_pos hd]
    rw [e]
    clear e hd hc hnm
    go_enter Tryz.func45, Tryz.ntmps45
    go_wp2_with (go_at_call 86; refine Hc.out.mono ?_; rintro e w' ⟨rfl, h1, ht⟩)
    go_ret
    exact ⟨rfl, dkSame h1 ht⟩
  | false =>
    rw [hd] at hc
    have Hc := Lib.hid hc
    cases hg : kvGet D.folder name with
    | none =>
      have hget := kvGet_none (L := L) hg
      have e : D.remove name = (D.alive, 7) := by unfold Dk.remove; rw [if_neg (by rw [hd]; simp), hg]
      rw [e]
      clear e hd hg hc hnm
      go_enter Tryz.func45, Tryz.ntmps45
      go_wp2_with (first
        | (go_at_call 86; refine Hc.out.mono ?_; rintro e w' ⟨rfl, h1, ht⟩;
            have c1 : w'.cell? ⟨b, 1, none⟩ = some (.map (some L.bm)) := h1.blk.cell 1; have hmp := h1.mp)
        | (at_lookup; refine wpList_kvNone rfl _ _ 69 rfl Tryz.underlying9 Tryz.underlying69 (hz0 _) rfl hmp rfl hsz hget ?_)
        | go_in)
      go_ret
      exact ⟨rfl, dkSame h1 ht⟩
    | some i =>
      have e : D.remove name = ({ D.alive with folder := kvDel D.alive.folder name, steps := D.alive.steps ++ [⟨3, name, name, i⟩] }, 0) := by unfold Dk.remove; rw [if_neg (by rw [hd]; simp), hg]; rfl
      rw [e]
      have hn80 : name.size ≤ 80 := hnm i hg
      have HG := Lib.hid hg
      have hsl : D.alive.steps.length + 1 ≤ 1048577 := Nat.succ_le_succ hst0
      clear e hd hc hg hnm
      go_enter Tryz.func45, Tryz.ntmps45
      go_wp2_with fail
      refine Hc.out.mono ?_
      rintro e w' ⟨rfl, h1, ht⟩
      have c1 : w'.cell? ⟨b, 1, none⟩ = some (.map (some L.bm)) := h1.blk.cell 1
      have hmp := h1.mp
      obtain ⟨hi, hget⟩ := kvGet_found h1 (show kvGet D.alive.folder name = some i from HG.out)
      have H1 := Lib.hid h1
      have HT := Lib.hid ht
      have HF : Hid (∃ v, v = fileV L.bs i) := ⟨_, rfl⟩
      clear h1 ht
      unfold fileV ptrV at hget
      go_wp2_with (first
          | (at_lookup; refine wpList_kvFound rfl _ _ 69 rfl Tryz.underlying9 Tryz.underlying69 (hz0 _) rfl hmp rfl hsz hget ?_)
          | (at_delete; refine wpList_kvDelete rfl _ _ 69 9 rfl Tryz.underlying9 Tryz.underlying69 rfl hmp rfl hsz ?_; intro w4 hmp4 htu4;
              have hT4 := Lib.hid (Touch.of_turned htu4); have hf4 := turned_facts H1.out hT4.out; have c34 : w4.cell? ⟨b, 3, none⟩ = some L.v := hf4.1.cell 3; have hb4 := Lib.hid hf4.1; have hst4 := hf4.2; clear hf4 htu4)
          | (at_builtin; refine wpList_app1 rfl _ _ 70 rfl 0 93 Tryz.underlying70 infoStep rfl (by decide) _ _ _ rfl hst4 _ rfl rfl (by simp [Value.oneCell']) ?_ ?_ (Nat.zero_le _) ?_; omega; omega; intro g5 cap5 w5 hst5 hgr5 _ hloc5;
              have hb5 : BlockIs w5 b (dkCells D.alive.room L.bm L.sm L.v D.alive.arm D.alive.dead) 72 := hb4.out.keep (hgr5.block _ hb4.out.lt (fun e => ((dk_facts H1.out).2 b e.symm).1 rfl));
              have c35 : w5.cell? ⟨b, 3, none⟩ = some L.v := hb5.cell 3;
              have f35 : w5.frozen? ⟨b, 3, none⟩ = false := hb5.free 3)
          | go_in)
      go_ret
      rw [kvDel_map] at hmp4
      exact ⟨rfl, step_fin H1.out ((HT.out.mono (fun k _ hk => by simp [foot, hk]))) hT4.out (kvDel D.alive.folder name) ⟨3, name, name, i⟩ ⟨hi, hn80, hn80⟩
        ⟨fun p hp => H1.out.ok.fol p (kvDel_mem hp), kvApart_del _ H1.out.ok.fap, kvDel_len _ _, fun p hp => H1.out.ok.nam p (kvDel_mem hp)⟩ hmp4 hst5 hgr5 hloc5⟩

set_option maxRecDepth 100000 in
set_option maxHeartbeats 800000 in
theorem rename_any (b : Nat) (D : Dk) (L : Lay) (name dst : ByteArray) (w : World) (h : DiskAt w b D L) (hs : name.size ≤ 9223372036854775807) (hds : dst.size ≤ 9223372036854775807) (hst0 : D.steps.length ≤ 1048576) (hf0 : D.files.length ≤ 1048576) :
    Calls Tryz.prog 57 #[.pointer (some ⟨b, 0, none⟩), .string name, .string dst] w fun e w' => e = .returned (.int .i64 (D.rename name dst).2) ∧ DkPost b L (D.rename name dst).1 w w' := by
  have hsz := ba_lenD hs
  have hsz2 := ba_lenD hds
  have hz0 := fun w => zero_ptr w
  have hnm := fun i (hg : kvGet D.folder name = some i) => h.ok.nam _ (kvGet_mem hg)
  have hc := alive_at b D L w h
  have hfl := Nat.le_trans h.ok.fln hf0
  clear h
  cases hd : D.alive.dead with
  | true =>
    rw [hd] at hc
    have Hc := Lib.hid hc
    have e : D.rename name dst = (D.alive, 10) := by unfold Dk.rename; rw [if_pos hd]
    rw [e]
    clear e hd hc hnm
    go_enter Tryz.func57, Tryz.ntmps57
    go_wp2_with (go_at_call 86; refine Hc.out.mono ?_; rintro e w' ⟨rfl, h1, ht⟩)
    go_ret
    exact ⟨rfl, dkSame h1 ht⟩
  | false =>
    rw [hd] at hc
    have Hc := Lib.hid hc
    cases hg : kvGet D.folder name with
    | none =>
      have hget := kvGet_none (L := L) hg
      have e : D.rename name dst = (D.alive, 7) := by unfold Dk.rename; rw [if_neg (by rw [hd]; simp), hg]
      rw [e]
      clear e hd hg hc hnm
      go_enter Tryz.func57, Tryz.ntmps57
      go_wp2_with (first
        | (go_at_call 86; refine Hc.out.mono ?_; rintro e w' ⟨rfl, h1, ht⟩;
            have c1 : w'.cell? ⟨b, 1, none⟩ = some (.map (some L.bm)) := h1.blk.cell 1; have hmp := h1.mp)
        | (at_lookup; refine wpList_kvNone rfl _ _ 69 rfl Tryz.underlying9 Tryz.underlying69 (hz0 _) rfl hmp rfl hsz hget ?_)
        | go_in)
      go_ret
      exact ⟨rfl, dkSame h1 ht⟩
    | some i =>
      have HG := Lib.hid hg
      have hn' := fun w => name_any dst w hds
      cases hn : dkName dst with
      | false =>
        have e : D.rename name dst = (D.alive, 11) := by unfold Dk.rename; rw [if_neg (by rw [hd]; simp), hg]; exact if_pos hn
        rw [e]
        rw [hn] at hn'
        have Hn := Lib.hid hn'
        clear e hd hc hg hnm hn hn'
        go_enter Tryz.func57, Tryz.ntmps57
        go_wp2_with fail
        refine Hc.out.mono ?_
        rintro e w' ⟨rfl, h1, ht⟩
        have c1 : w'.cell? ⟨b, 1, none⟩ = some (.map (some L.bm)) := h1.blk.cell 1
        have hmp := h1.mp
        obtain ⟨hi, hget⟩ := kvGet_found h1 (show kvGet D.alive.folder name = some i from HG.out)
        have H1 := Lib.hid h1
        have HT := Lib.hid ht
        clear h1 ht
        unfold fileV ptrV at hget
        go_wp2_with (first
          | (at_lookup; refine wpList_kvFound rfl _ _ 69 rfl Tryz.underlying9 Tryz.underlying69 (hz0 _) rfl hmp rfl hsz hget ?_)
          | (go_at_call 93; refine (Hn.out _).mono ?_; rintro e w2 ⟨rfl, hb⟩)
          | go_in)
        go_ret
        exact ⟨rfl, dkSame (H1.out.below hb) (HT.out.trans (Touch.of_below (fun _ => False) hb) (fun _ _ h => h.elim))⟩
      | true =>
        have e : D.rename name dst = ({ D.alive with folder := kvPut (kvDel D.alive.folder name) dst i, steps := D.alive.steps ++ [⟨2, name, dst, i⟩] }, 0) := by
          unfold Dk.rename; rw [if_neg (by rw [hd]; simp), hg]; exact if_neg (by rw [hn]; simp)
        rw [e]
        rw [hn] at hn'
        have Hn := Lib.hid hn'
        have hn80 : name.size ≤ 80 := hnm i hg
        have hd80 : dst.size ≤ 80 := by
          unfold dkName at hn; simp only [Bool.and_eq_true, decide_eq_true_eq] at hn; exact hn.2
        have hsl : D.alive.steps.length + 1 ≤ 1048577 := Nat.succ_le_succ hst0
        clear e hd hc hg hnm hn hn'
        go_enter Tryz.func57, Tryz.ntmps57
        go_wp2_with fail
        refine Hc.out.mono ?_
        rintro e w' ⟨rfl, h1, ht⟩
        have c1 : w'.cell? ⟨b, 1, none⟩ = some (.map (some L.bm)) := h1.blk.cell 1
        have hmp := h1.mp
        obtain ⟨hi, hget⟩ := kvGet_found h1 (show kvGet D.alive.folder name = some i from HG.out)
        have H1 := Lib.hid h1
        have HT := Lib.hid ht
        clear h1 ht
        unfold fileV ptrV at hget
        go_wp2_with (first
          | (at_lookup; refine wpList_kvFound rfl _ _ 69 rfl Tryz.underlying9 Tryz.underlying69 (hz0 _) rfl hmp rfl hsz hget ?_)
          | fail)
        refine (Hn.out _).mono ?_
        rintro e w2 ⟨rfl, hb⟩
        have h2 := H1.out.below hb
        have c12 : w2.cell? ⟨b, 1, none⟩ = some (.map (some L.bm)) := h2.blk.cell 1
        have hmp2 := h2.mp
        have htt : Touch (· ∈ foot b L) w w2 := (HT.out.mono (fun k _ hk => by simp [foot, hk])).trans (Touch.of_below (fun _ => False) hb) (fun _ _ h => h.elim)
        have H2 := Lib.hid h2
        have HTT := Lib.hid htt
        have hdl : (kvDel (kvMap (fileV L.bs) D.alive.folder) name).length < 1099511627776 := by
          have h1 := kvDel_len (kvMap (fileV L.bs) D.alive.folder) name
          have h3 : D.alive.folder.length = D.folder.length := rfl
          rw [kvMap_len, h3] at h1; omega
        clear h2 htt
        go_wp2_with (first
          | (at_delete; refine wpList_kvDelete rfl _ _ 69 9 rfl Tryz.underlying9 Tryz.underlying69 rfl hmp2 rfl hsz ?_; intro w3 hmp3 htu3;
              have hT3 := Lib.hid (Touch.of_turned htu3); have hf3 := turned_facts H2.out hT3.out; have c13 : w3.cell? ⟨b, 1, none⟩ = some (.map (some L.bm)) := hf3.1.cell 1; clear hf3 htu3)
          | (at_mapUpdate; refine wpList_kvStore rfl _ _ _ 69 rfl Tryz.underlying9 Tryz.underlying69 rfl hmp3 hdl rfl hsz2 rfl ?_; intro w4 hmp4 htu4;
              have hT4 := Lib.hid (hT3.out.trans (Touch.of_turned htu4) (fun _ _ h => h)); have hf4 := turned_facts H2.out hT4.out; have c34 : w4.cell? ⟨b, 3, none⟩ = some L.v := hf4.1.cell 3; have hb4 := Lib.hid hf4.1; have hst4 := hf4.2; clear hf4 htu4)
          | (at_builtin; refine wpList_app1 rfl _ _ 70 rfl 0 93 Tryz.underlying70 infoStep rfl (by decide) _ _ _ rfl hst4 _ rfl rfl (by simp [Value.oneCell']) ?_ ?_ (Nat.zero_le _) ?_; omega; omega; intro g5 cap5 w5 hst5 hgr5 _ hloc5;
              have hb5 : BlockIs w5 b (dkCells D.alive.room L.bm L.sm L.v D.alive.arm D.alive.dead) 72 := hb4.out.keep (hgr5.block _ hb4.out.lt (fun e => ((dk_facts H2.out).2 b e.symm).1 rfl));
              have c35 : w5.cell? ⟨b, 3, none⟩ = some L.v := hb5.cell 3;
              have f35 : w5.frozen? ⟨b, 3, none⟩ = false := hb5.free 3)
          | go_in)
        go_ret
        have hmp5 : ownsKV w4 Tryz.prog 9 L.bm (kvMap (fileV L.bs) (kvPut (kvDel D.alive.folder name) dst i)) := by
          rw [← kvPut_map, ← kvDel_map]; exact hmp4
        exact ⟨rfl, step_fin H2.out HTT.out hT4.out (kvPut (kvDel D.alive.folder name) dst i) ⟨2, name, dst, i⟩ ⟨hi, hn80, hd80⟩
          ⟨fun p hp => by
              rcases kvPut_mem hp with rfl | hp
              · exact hi
              · exact H2.out.ok.fol p (kvDel_mem hp), kvApart_put _ _ (kvApart_del _ H2.out.ok.fap), by
              have h1 := kvPut_len (kvDel D.alive.folder name) dst i
              have h3 := kvDel_len_lt (show kvGet D.alive.folder name = some i from HG.out)
              omega, fun p hp => by
              rcases kvPut_mem hp with rfl | hp
              · exact hd80
              · exact H2.out.ok.nam p (kvDel_mem hp)⟩ hmp5 hst5 hgr5 hloc5⟩
end Go.Proofs.YtpeepdkeicgkiaaGreatDoor
namespace Go.Proofs.YtpeepdkeicgkiaaGreatDoor
set_option linter.unusedVariables false
set_option linter.unusedSimpArgs false
set_option linter.unusedSectionVars false
open Go.RowKit Go.Maps

theorem tmod_between (x n : Int) (hn : 0 < n) : -n < x.tmod n ∧ x.tmod n < n := by
  refine ⟨?_, Int.tmod_lt_of_pos x hn⟩
  by_cases hx : 0 ≤ x
  · have := Int.tmod_nonneg n hx; omega
  · have h4 := Int.tmod_lt_of_pos (-x) hn
    rw [Int.neg_tmod] at h4; omega
theorem tmod_emod (x n : Int) (hn : 0 < n) : x % n = if x.tmod n < 0 then x.tmod n + n else x.tmod n := by
  obtain ⟨h3, h2⟩ := tmod_between x n hn
  have h1 : x = x.tmod n + n * x.tdiv n := (Int.tmod_add_mul_tdiv x n).symm
  have h4 : x % n = (x.tmod n) % n := by
    have h5 : (x.tmod n + n * x.tdiv n) % n = (x.tmod n) % n := Int.add_mul_emod_self_left _ _ _
    rw [← h1] at h5; exact h5
  rw [h4]
  split
  · rw [← Int.add_emod_right, Int.emod_eq_of_lt (by omega) (by omega)]
  · rw [Int.emod_eq_of_lt (by omega) (by omega)]

set_option maxHeartbeats 400000 in
set_option maxRecDepth 100000 in
theorem place_any (x n : Int) (w : World) (hx : -9223372036854775808 ≤ x ∧ x ≤ 9223372036854775807) (hn : 0 < n ∧ n ≤ 4611686018427387904) :
    Calls Tryz.prog 49 #[.int .i64 x, .int .i64 n] w fun e w' => e = .returned (.int .i64 (x % n)) ∧ w = w' := by
  have HE := Lib.hid (tmod_emod x n hn.1)
  obtain ⟨h3, h2⟩ := tmod_between x n hn.1
  obtain ⟨hx1, hx2⟩ := hx
  by_cases h : x.tmod n < 0
  · have HE := Lib.hid (show x % n = x.tmod n + n by rw [HE.out, if_pos h])
    go_enter Tryz.func49, Tryz.ntmps49
    go_wp2
    go_ret
    exact ⟨ret_int HE.out.symm, rfl⟩
  · have HE := Lib.hid (show x % n = x.tmod n by rw [HE.out, if_neg h])
    go_enter Tryz.func49, Tryz.ntmps49
    go_wp2
    go_ret
    exact ⟨ret_int HE.out.symm, rfl⟩

/-- what keeps says of a place -/
def sayI (ks : List Int) (i : Nat) : Int := if ks = [] then 0 else ks.getD (i % ks.length) 0
/-- a row of numbers, to be read -/
def RowInt (w : World) (v : Value) (l : List Int) : Prop :=
  ((∃ a c, v = .slice a 0 c) ∧ l = []) ∨ ∃ g o cap, v = .slice (some ⟨g, o, none⟩) l.length cap ∧ ∀ j (h : j < l.length), w.cell? ⟨g, o + j, none⟩ = some (.int .i64 l[j])

set_option maxHeartbeats 400000 in
set_option maxRecDepth 100000 in
theorem say_any (ks : List Int) (i bx : Nat) (v : Value) (w : World) (hv : RowInt w v ks) (hb : w.cell? ⟨bx, 0, none⟩ = some v) (_hi : i ≤ 4611686018427387904) (hl : ks.length ≤ 9223372036854775807) :
    Calls Tryz.prog 47 #[.int .i64 i, .pointer (some ⟨bx, 0, none⟩)] w fun e w' => e = .returned (.int .i64 (sayI ks i)) ∧ ∃ n, w' = w.drewN n := by
  rcases hv with ⟨⟨a, c, rfl⟩, rfl⟩ | ⟨g, o, cap, rfl, hc⟩
  · go_enter Tryz.func47, Tryz.ntmps47
    go_wp2
    go_ret
    exact ⟨rfl, 0, rfl⟩
  · by_cases h0 : ks.length = 0
    · have hks : ks = [] := List.length_eq_zero_iff.1 h0
      subst hks
      go_enter Tryz.func47, Tryz.ntmps47
      go_wp2
      go_ret
      exact ⟨rfl, 0, rfl⟩
    · have hm : i % ks.length < ks.length := Nat.mod_lt _ (by omega)
      have c1 := hc (i % ks.length) hm
      have HS : Hid (sayI ks i = ks[i % ks.length]) := by
        unfold Hid sayI
        rw [if_neg (by intro h; exact h0 (by rw [h]; rfl)), List.getD, List.getElem?_eq_getElem hm]; rfl
      have ht : ((i : Int).tmod (ks.length : Int)) = ((i % ks.length : Nat) : Int) := rfl
      clear hc
      generalize ks[i % ks.length] = x at c1 HS
      go_enter Tryz.func47, Tryz.ntmps47
      go_wp2
      go_quiet (fail)
      go_wp2
      go_ret
      exact ⟨ret_int HS.out.symm, nq, rfl⟩
end Go.Proofs.YtpeepdkeicgkiaaGreatDoor
namespace Go.Proofs.YtpeepdkeicgkiaaGreatDoor
set_option linter.unusedVariables false
set_option linter.unusedSimpArgs false
set_option linter.unusedSectionVars false
open Go.RowKit Go.Maps

def Dk.small (D : Dk) (n : Nat) : Prop := D.files.length ≤ n ∧ D.steps.length ≤ n
theorem small_remove {D : Dk} {n : Nat} (h : D.small n) (name : ByteArray) : (D.remove name).1.small (n + 1) := by
  obtain ⟨h1, h2⟩ := h
  unfold Dk.remove
  split
  · exact ⟨Nat.le_succ_of_le h1, Nat.le_succ_of_le h2⟩
  · split
    · exact ⟨Nat.le_succ_of_le h1, by simp; omega⟩
    · exact ⟨Nat.le_succ_of_le h1, Nat.le_succ_of_le h2⟩
theorem small_append {D : Dk} {n : Nat} (h : D.small n) (name data : ByteArray) : (D.append name data).1.small (n + 1) := by
  obtain ⟨h1, h2⟩ := h
  have ha : D.alive.small (n + 1) := ⟨Nat.le_succ_of_le h1, Nat.le_succ_of_le h2⟩
  unfold Dk.append
  split
  · exact ha
  · split
    · exact ha
    · split
      · exact ha
      · unfold Dk.put
        split
        · exact ⟨by simp; exact ha.1, ha.2⟩
        · exact ⟨by simp; exact h1, by simp; exact h2⟩
theorem small_sync {D : Dk} {n : Nat} (h : D.small n) (name : ByteArray) : (D.sync name).1.small n := by
  obtain ⟨h1, h2⟩ := h
  unfold Dk.sync
  split
  · exact ⟨h1, h2⟩
  · split
    · exact ⟨by simp; exact h1, h2⟩
    · exact ⟨h1, h2⟩
theorem small_rename {D : Dk} {n : Nat} (h : D.small n) (name dst : ByteArray) : (D.rename name dst).1.small (n + 1) := by
  obtain ⟨h1, h2⟩ := h
  have ha : D.alive.small (n + 1) := ⟨Nat.le_succ_of_le h1, Nat.le_succ_of_le h2⟩
  unfold Dk.rename
  split
  · exact ha
  · split
    · split
      · exact ha
      · exact ⟨Nat.le_succ_of_le h1, by simp; exact h2⟩
    · exact ha
theorem small_settle {D : Dk} {n : Nat} (h : D.small n) : D.settle.1.small n := by
  obtain ⟨h1, h2⟩ := h
  unfold Dk.settle
  split
  · exact ⟨h1, h2⟩
  · exact ⟨h1, Nat.zero_le _⟩
theorem Dk.small.mono {D : Dk} {n m : Nat} (h : D.small n) (hm : n ≤ m) : D.small m := ⟨Nat.le_trans h.1 hm, Nat.le_trans h.2 hm⟩

theorem DkPost.trans {b : Nat} {L L1 : Lay} {D2 : Dk} {w w1 w2 : World} (ht : Touch (· ∈ foot b L) w w1) (hf : ∀ k ∈ foot b L1, k ∈ foot b L ∨ w.heap.size ≤ k) (h : DkPost b L1 D2 w1 w2) : DkPost b L D2 w w2 := by
  obtain ⟨L2, h1, h2, h3⟩ := h
  refine ⟨L2, h1, ht.trans h2 (fun i hi hm => (hf i hm).resolve_right (by omega)), fun k hk => ?_⟩
  rcases h3 k hk with h | h
  · exact hf k h
  · exact Or.inr (Nat.le_trans ht.size h)
theorem DkPost.of {b : Nat} {L : Lay} {D : Dk} {w w' : World} (h : DiskAt w' b D L) (ht : Below w.heap.size w w') : DkPost b L D w w' := ⟨L, h, Touch.of_below _ ht, fun _ hk => Or.inl hk⟩

end Go.Proofs.YtpeepdkeicgkiaaGreatDoor
