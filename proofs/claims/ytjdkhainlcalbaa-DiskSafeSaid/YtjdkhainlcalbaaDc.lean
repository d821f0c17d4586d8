/- The disk's Read, Sync, New. -/
import Derived.Test.YtjdkhainlcalbaaDb
import Derived.Shelf.SlMaps.Clone
namespace Go.Proofs.Ytjdkhainlcalbaa
open Go.RowKit Go.Maps

def Dk.sync (D : Dk) (name : ByteArray) : Dk × Int :=
  if D.alive.dead = true then (D.alive, 10) else
  match kvGet D.folder name with
  | some i => ({ D.alive with files := D.files.set i { data := (D.flAt i).data, safe := (D.flAt i).data.size } }, 0)
  | none => (D.alive, 7)
def Dk.read (D : Dk) (name : ByteArray) : ByteArray × Int :=
  if D.dead = true then (⟨#[]⟩, 10) else
  match kvGet D.folder name with
  | some i => ((D.flAt i).data, 0)
  | none => (⟨#[]⟩, 7)
theorem ba_len {s : ByteArray} (h : s.size ≤ 9223372036854775807) : s.size ≤ maxLen := by unfold maxLen; omega
theorem dkSame {b : Nat} {D : Dk} {L : Lay} {w w' : World} (h1 : DiskAt w' b D L) (h2 : Touch (· = b) w w') : DkPost b L D w w' :=
  ⟨L, h1, h2.mono (fun i _ hi => by simp [foot, hi]), fun k hk => Or.inl hk⟩
theorem bs_foot {b : Nat} {L : Lay} {i : Nat} (h : i < L.bs.length) : L.bs.getD i 0 ∈ foot b L := by
  simp only [foot, List.mem_cons, List.mem_append]; exact Or.inr (Or.inr (Or.inr (Or.inr (getD_mem h))))

set_option maxRecDepth 100000 in
set_option maxHeartbeats 400000 in
theorem read_any (b : Nat) (D : Dk) (L : Lay) (name : ByteArray) (w : World) (h : DiskAt w b D L) (hs : name.size ≤ 9223372036854775807) :
    Calls Try.prog 33 #[.pointer (some ⟨b, 0, none⟩), .string name] w fun e w' => e = .returned (.tuple #[.string (D.read name).1, .int .i64 (D.read name).2]) ∧ w = w' := by
  have c1 : w.cell? ⟨b, 1, none⟩ = some (.map (some L.bm)) := h.blk.cell 1
  have hsz := ba_len hs
  have hz0 := fun w => zero_ptr w
  have hmp := h.mp
  cases hd : D.dead with
  | true =>
    have c5 : w.cell? ⟨b, 5, none⟩ = some (.bool true) := by have := h.blk.cell 5; rw [hd] at this; exact this
    have e : D.read name = (⟨#[]⟩, 10) := by unfold Dk.read; rw [if_pos hd]
    rw [e]
    clear e hd h
    go_enter Try.func33, Try.ntmps33
    go_wp2
    go_ret2
    exact ⟨rfl, rfl⟩
  | false =>
    have c5 : w.cell? ⟨b, 5, none⟩ = some (.bool false) := by have := h.blk.cell 5; rw [hd] at this; exact this
    cases hg : kvGet D.folder name with
    | none =>
      have hget := kvGet_none (L := L) hg
      have e : D.read name = (⟨#[]⟩, 7) := by unfold Dk.read; rw [if_neg (by rw [hd]; simp), hg]
      rw [e]
      clear e hd h hg
      go_enter Try.func33, Try.ntmps33
      go_wp2_with (first
          | (at_lookup; refine wpList_kvNone rfl _ _ 111 rfl Try.underlying9 Try.underlying111 (hz0 _) rfl hmp rfl hsz hget ?_)
          | go_in)
      go_ret2
      exact ⟨rfl, rfl⟩
    | some i =>
      obtain ⟨hi, hget⟩ := kvGet_found h hg
      have e : D.read name = ((D.flAt i).data, 0) := by unfold Dk.read; rw [if_neg (by rw [hd]; simp), hg]
      rw [e]
      have d0 : w.cell? ⟨L.bs.getD i 0, 0, none⟩ = some (.string (D.flAt i).data) := (h.fs i hi).cell 0
      clear e hd h hg
      unfold fileV ptrV at hget
      generalize L.bs.getD i 0 = c at d0 hget
      go_enter Try.func33, Try.ntmps33
      go_wp2_with (first
          | (at_lookup; refine wpList_kvFound rfl _ _ 111 rfl Try.underlying9 Try.underlying111 (hz0 _) rfl hmp rfl hsz hget ?_)
          | go_in)
      go_ret2
      exact ⟨rfl, rfl⟩

set_option maxRecDepth 100000 in
set_option maxHeartbeats 400000 in
theorem sync_any (b : Nat) (D : Dk) (L : Lay) (name : ByteArray) (w : World) (h : DiskAt w b D L) (hs : name.size ≤ 9223372036854775807) :
    Calls Try.prog 29 #[.pointer (some ⟨b, 0, none⟩), .string name] w fun e w' => e = .returned (.int .i64 (D.sync name).2) ∧ DkPost b L (D.sync name).1 w w' := by
  have hsz := ba_len hs
  have hz0 := fun w => zero_ptr w
  have hc := alive_at b D L w h
  clear h
  cases hd : D.alive.dead with
  | true =>
    rw [hd] at hc
    have Hc := Lib.hid hc
    have e : D.sync name = (D.alive, 10) := by unfold Dk.sync; rw [if_pos hd]
    rw [e]
    clear e hd hc
    go_enter Try.func29, Try.ntmps29
    go_wp2_with (go_at_call 61; refine Hc.out.mono ?_; rintro e w' ⟨rfl, h1, ht⟩)
    go_ret
    exact ⟨rfl, dkSame h1 ht⟩
  | false =>
    rw [hd] at hc
    have Hc := Lib.hid hc
    cases hg : kvGet D.folder name with
    | none =>
      have hget := kvGet_none (L := L) hg
      have e : D.sync name = (D.alive, 7) := by unfold Dk.sync; rw [if_neg (by rw [hd]; simp), hg]
      rw [e]
      clear e hd hg hc
      go_enter Try.func29, Try.ntmps29
      go_wp2_with (first
        | (go_at_call 61; refine Hc.out.mono ?_; rintro e w' ⟨rfl, h1, ht⟩;
            have c1 : w'.cell? ⟨b, 1, none⟩ = some (.map (some L.bm)) := h1.blk.cell 1; have hmp := h1.mp)
        | (at_lookup; refine wpList_kvNone rfl _ _ 111 rfl Try.underlying9 Try.underlying111 (hz0 _) rfl hmp rfl hsz hget ?_)
        | go_in)
      go_ret
      exact ⟨rfl, dkSame h1 ht⟩
    | some i =>
      have e : D.sync name = ({ D.alive with files := D.alive.files.set i { data := (D.flAt i).data, safe := (D.flAt i).data.size } }, 0) := by unfold Dk.sync; rw [if_neg (by rw [hd]; simp), hg]; rfl
      rw [e]
      have HG := Lib.hid hg
      clear e hd hc hg
      go_enter Try.func29, Try.ntmps29
      go_wp2_with fail
      refine Hc.out.mono ?_
      rintro e w' ⟨rfl, h1, ht⟩
      have c1 : w'.cell? ⟨b, 1, none⟩ = some (.map (some L.bm)) := h1.blk.cell 1
      have hmp := h1.mp
      obtain ⟨hi, hget⟩ := kvGet_found h1 (show kvGet D.alive.folder name = some i from HG.out)
      have hblk := h1.fs i hi
      have d0 : w'.cell? ⟨L.bs.getD i 0, 0, none⟩ = some (.string (D.flAt i).data) := hblk.cell 0
      have d1 : w'.cell? ⟨L.bs.getD i 0, 1, none⟩ = some (.int .i64 (D.flAt i).safe) := hblk.cell 1
      have f1 : w'.frozen? ⟨L.bs.getD i 0, 1, none⟩ = false := hblk.free 1
      have hfin : DkPost b L { D.alive with files := D.alive.files.set i { data := (D.flAt i).data, safe := (D.flAt i).data.size } } w (w'.setCell ⟨L.bs.getD i 0, 1, none⟩ (.int .i64 (D.flAt i).data.size)) :=
        ⟨L, h1.setFile hi { data := (D.flAt i).data, safe := (D.flAt i).data.size } ⟨(flAt_le h1.ok i).1, Nat.le_refl _⟩ (hblk.set 1 (.int .i64 (D.flAt i).data.size)) (Touch.setc _ _ _ _),
          (ht.mono (fun k _ hk => by simp [foot, hk])).trans (Touch.setc _ _ _ _) (fun k _ hk => by subst hk; exact bs_foot (by rw [h1.len]; exact hi)), fun k hk => Or.inl hk⟩
      have HF := Lib.hid hfin
      clear hfin hblk
      unfold fileV ptrV at hget
      generalize L.bs.getD i 0 = c at d0 d1 f1 hget HF
      go_wp2_with (first
          | (at_lookup; refine wpList_kvFound rfl _ _ 111 rfl Try.underlying9 Try.underlying111 (hz0 _) rfl hmp rfl hsz hget ?_)
          | go_in)
      go_ret
      exact ⟨rfl, HF.out⟩

theorem run_map_nil_eq {P : Program} (w : World) (t k e : TypeId) (p : Option Nat) (h : P.underlying t = some (.map k e)) :
    (binOp .eql t (.map p) (.map none)).run P w = .ok (.bool p.isNone) w := run_eql_map_nil_sl w t k e p h

set_option maxRecDepth 100000 in
/-- maps.Clone of the disk's map. -/
theorem clone_any (m : Nat) (l : List (ByteArray × Value)) (w : World) (h : ownsKV w Try.prog 9 m l) :
    Calls Try.prog 63 #[.map (some m)] w fun e w' => e = .returned (.map (some w.heap.size)) ∧ ownsKV w' Try.prog 9 w.heap.size l ∧ Below w.heap.size w w' ∧ w'.heap.size = w.heap.size + 1 := by
  obtain ⟨es, clock, hb, F, hs, hD⟩ := h
  have hq := fun w => run_map_nil_eq (P := Try.prog) w 111 _ _ (some m) Try.underlying111
  have H := Lib.hid (And.intro F (And.intro hs hD))
  have HB := Lib.hid hb
  clear F hs hD hb
  go_enter Try.func63, Try.ntmps63
  go_wp2
  rw [run_callFunc_extern Try.func82 (by kernel_rfl) (by kernel_rfl) (by kernel_rfl) (e := Extern.MapsClone.clone) (by kernel_rfl), run_maps_clone_sl w 111 HB.out]
  simp only [Result.andThen]
  rw [Oper.upon_value]
  go_wp2
  rw [run_typeAssert_map_sl _ 111 20 _ _ _ Try.underlying111]
  simp only [Result.andThen]
  rw [Oper.upon_value]
  go_wp2
  go_ret
  exact ⟨rfl, ⟨es, clock, (MapKept.heap_alloc w _).1, H.out.1, H.out.2.1, H.out.2.2⟩, (Below.refl _ w).alloc (Nat.le_refl _) _, by simp⟩

def Dk.settle (D : Dk) : Dk × Int := if D.alive.dead = true then (D.alive, 10) else ({ D.alive with sure := D.folder, steps := [] }, 0)

set_option maxRecDepth 100000 in
set_option maxHeartbeats 400000 in
theorem settle_any (b : Nat) (D : Dk) (L : Lay) (w : World) (h : DiskAt w b D L) :
    Calls Try.prog 30 #[.pointer (some ⟨b, 0, none⟩)] w fun e w' => e = .returned (.int .i64 D.settle.2) ∧ DkPost b L D.settle.1 w w' := by
  have hc := alive_at b D L w h
  clear h
  cases hd : D.alive.dead with
  | true =>
    rw [hd] at hc
    have Hc := Lib.hid hc
    have e : D.settle = (D.alive, 10) := by unfold Dk.settle; rw [if_pos hd]
    rw [e]
    clear e hd hc
    go_enter Try.func30, Try.ntmps30
    go_wp2_with (go_at_call 61; refine Hc.out.mono ?_; rintro e w' ⟨rfl, h1, ht⟩)
    go_ret
    exact ⟨rfl, dkSame h1 ht⟩
  | false =>
    rw [hd] at hc
    have Hc := Lib.hid hc
    have e : D.settle = ({ D.alive with sure := D.alive.folder, steps := [] }, 0) := by unfold Dk.settle; rw [if_neg (by rw [hd]; simp)]; rfl
    rw [e]
    clear e hd hc
    go_enter Try.func30, Try.ntmps30
    go_wp2_with fail
    refine Hc.out.mono ?_
    rintro e w' ⟨rfl, h1, ht⟩
    have c1 : w'.cell? ⟨b, 1, none⟩ = some (.map (some L.bm)) := h1.blk.cell 1
    go_wp2_with fail
    refine (clone_any L.bm _ _ h1.mp).mono ?_
    rintro e w2 ⟨rfl, hsm, hb, hz⟩
    have h2 := h1.below hb
    have c2 : w2.cell? ⟨b, 2, none⟩ = some (.map (some L.sm)) := h2.blk.cell 2
    have f2 : w2.frozen? ⟨b, 2, none⟩ = false := h2.blk.free 2
    have c3 : w2.cell? ⟨b, 3, none⟩ = some L.v := h2.blk.cell 3
    have f3 : w2.frozen? ⟨b, 3, none⟩ = false := h2.blk.free 3
    have H1 := Lib.hid h1
    have H2 := Lib.hid h2
    have HZ := Lib.hid hz
    clear h1 h2 hz
    go_wp2
    go_ret
    refine ⟨rfl, ?_⟩
    generalize hw3 : (w2.setCell ⟨b, 2, none⟩ (.map (some w'.heap.size))).setCell ⟨b, 3, none⟩ (.slice none 0 0) = w3
    have t3 : Touch (· = b) w2 w3 := by rw [← hw3]; exact (Touch.setc _ _ _ _).trans (Touch.setc _ _ _ _) (fun _ _ h => h)
    have hbl : BlockIs w3 b (dkCells D.alive.room L.bm w'.heap.size (.slice none 0 0) D.alive.arm D.alive.dead) 114 := by
      have := (H2.out.blk.set 2 (.map (some w'.heap.size))).set 3 (.slice none 0 0)
      rw [hw3] at this; exact this
    have hne := nd_ne H2.out.nd
    have hlt := H1.out.flt
    have hk : ∀ k, k ∈ L.bm :: L.bs ∨ k = w'.heap.size → w3.heap[k]? = w2.heap[k]? := by
      intro k hk
      have hbl := hlt b (by simp [foot])
      have hzz := HZ.out
      rcases hk with hk | rfl
      · have hkf : k ∈ foot b L := by simp only [foot, List.mem_cons, List.mem_append] at hk ⊢; rcases hk with hk | hk <;> simp [hk]
        exact t3.block k (by have := hlt k hkf; omega) (hne k (by simp only [List.mem_cons, List.mem_append] at hk ⊢; rcases hk with hk | hk <;> simp [hk]))
      · exact t3.block _ (by omega) (by omega)
    refine ⟨⟨L.bm, w'.heap.size, .slice none 0 0, L.bs⟩, ?_, ?_, ?_⟩
    · exact
      { blk := hbl
        mp := ownsKV_block H2.out.mp (hk _ (by simp))
        sf := ownsKV_block hsm (hk _ (Or.inr rfl))
        st := ⟨rfl, Or.inl ⟨rfl, rfl⟩⟩
        len := H2.out.len
        fs := fun i hi => (H2.out.fs i hi).keep (hk _ (Or.inl (List.mem_cons_of_mem _ (getD_mem (by rw [H2.out.len]; exact hi)))))
        nd := by
          have hnd := H1.out.nd
          have hbl := hlt b (by simp [foot])
          have hbm := hlt L.bm (by simp [foot])
          have hbs : ∀ k ∈ L.bs, k < w'.heap.size := fun k hk => hlt k (by simp [foot, hk])
          simp only [foot, List.nodup_cons, List.nodup_append, List.mem_cons, List.mem_append, Option.mem_toList, not_or] at hnd
          simp only [foot, Value.ownBlock, Option.toList, List.nil_append, List.nodup_cons, List.mem_cons, not_or]
          exact ⟨⟨hnd.1.1, by omega, hnd.1.2.2.2⟩, ⟨by omega, hnd.2.1.2.2⟩, fun h => Nat.lt_irrefl _ (hbs _ h), hnd.2.2.2.2.1⟩
        ok := ⟨H2.out.ok.fol, H2.out.ok.fol, fun s hs => by simp at hs, H2.out.ok.fap, H2.out.ok.fap, H2.out.ok.fln, H2.out.ok.fln, H2.out.ok.dat, H2.out.ok.arm, H2.out.ok.rm, H2.out.ok.nam, H2.out.ok.nam⟩ }
    · exact ((ht.mono (fun k _ hk => by simp [foot, hk])).trans (Touch.of_below (fun _ => False) hb) (fun _ _ h => h.elim)).trans t3 (fun k _ hk => by simp [foot, hk])
    · intro k hk
      have hk : k = b ∨ k = L.bm ∨ k = w'.heap.size ∨ k ∈ L.bs := by
        simpa only [foot, List.mem_cons, List.mem_append, Value.ownBlock, Option.mem_toList, reduceCtorEq, false_or] using hk
      have hw := ht.size
      rcases hk with rfl | rfl | rfl | hk
      · exact Or.inl (by simp [foot])
      · exact Or.inl (by simp [foot])
      · exact Or.inr hw
      · exact Or.inl (by simp [foot, hk])

/-- a new disk -/
def dkNew (room : Int) : Dk := ⟨room, [], [], [], [], -1, false⟩

set_option maxRecDepth 100000 in
set_option maxHeartbeats 400000 in
theorem new_any (room : Int) (w : World) (h : 0 ≤ room ∧ room ≤ 1073741824) :
    Calls Try.prog 25 #[.int .i64 room] w fun e w' => ∃ b L, e = .returned (.tuple #[.pointer (some ⟨b, 0, none⟩), .int .i64 0]) ∧ DiskAt w' b (dkNew room) L ∧ Below w.heap.size w w' ∧ ∀ k ∈ foot b L, w.heap.size ≤ k := by
  have hmm := @run_makeMap Try.prog
  obtain ⟨ha, hb⟩ := h
  go_enter Try.func25, Try.ntmps25
  go_wp2
  go_ret2
  refine ⟨w.heap.size + 2, ⟨w.heap.size, w.heap.size + 1, .slice none 0 0, []⟩, rfl, ?_, ?_, ?_⟩
  · have hm := ownsKV_made w Try.prog 9
    have hm2 := ownsKV_made (w.alloc (.map #[] 0)) Try.prog 9
    simp only [World.size_alloc] at hm2
    exact
    { blk := by have := BlockIs.new ((w.alloc (.map #[] 0)).alloc (.map #[] 0)) (dkCells room w.heap.size (w.heap.size + 1) (.slice none 0 0) (-1) false) 114; simp only [World.size_alloc] at this; exact this
      mp := ownsKV_block hm (by rw [Below.heap_alloc _ _ _ (by simp; omega), Below.heap_alloc _ _ _ (by simp)])
      sf := ownsKV_block hm2 (by rw [Below.heap_alloc _ _ _ (by simp)])
      st := ⟨rfl, Or.inl ⟨rfl, rfl⟩⟩
      len := rfl
      fs := fun i hi => by simp [dkNew] at hi
      nd := by simp [foot, Value.ownBlock]
      ok := ⟨fun p hp => by simp [dkNew] at hp, fun p hp => by simp [dkNew] at hp, fun p hp => by simp [dkNew] at hp, List.Pairwise.nil, List.Pairwise.nil, Nat.le_refl _, Nat.le_refl _, fun p hp => by simp [dkNew] at hp, by simp [dkNew], ⟨ha, hb⟩, fun p hp => by simp [dkNew] at hp, fun p hp => by simp [dkNew] at hp⟩ }
  · exact (((Below.refl _ _).alloc (Nat.le_refl _) _).alloc (by simp) _).alloc (by simp; omega) _
  · intro k hk
    have hk : k = w.heap.size + 2 ∨ k = w.heap.size ∨ k = w.heap.size + 1 := by
      simpa [foot, Value.ownBlock] using hk
    omega
theorem new_bad (room : Int) (w : World) (h : room < 0 ∨ (0 ≤ room ∧ 1073741824 < room)) :
    Calls Try.prog 25 #[.int .i64 room] w fun e w' => e = .returned (.tuple #[.pointer none, .int .i64 1]) ∧ w = w' := by
  rcases h with h | ⟨h1, h2⟩
  · go_enter Try.func25, Try.ntmps25
    go_wp2
    go_ret2
    exact ⟨rfl, rfl⟩
  · go_enter Try.func25, Try.ntmps25
    go_wp2
    go_ret2
    exact ⟨rfl, rfl⟩
end Go.Proofs.Ytjdkhainlcalbaa
