/- The disk's Append. -/
import Derived.Test.YtjdkhainlcalbaaDs
import Derived.Deep.RegionHeld3
import Derived.Deep.RegionWith
import Derived.StillTailTactics
import Derived.Deep.DeepCutAuto
namespace Go.Proofs.Ytjdkhainlcalbaa
open Go.RowKit Go.Maps

def Dk.alive (D : Dk) : Dk := { D with arm := (armNext D.arm D.dead).1, dead := (armNext D.arm D.dead).2 }
theorem armNext_ok {arm : Int} {dead : Bool} (h : -1 ≤ arm ∧ arm ≤ 9223372036854775807) : -1 ≤ (armNext arm dead).1 ∧ (armNext arm dead).1 ≤ 9223372036854775807 := by
  unfold armNext; split
  · simp
  · split <;> simp <;> omega
theorem DkOk.alive {D : Dk} (h : DkOk D) : DkOk D.alive := ⟨h.fol, h.sur, h.stp, h.fap, h.sap, h.fln, h.sln, h.dat, armNext_ok h.arm, h.rm, h.nam, h.snm⟩

theorem nd_ne {b : Nat} {L : Lay} (h : (foot b L).Nodup) : ∀ k ∈ L.bm :: L.sm :: (L.v.ownBlock.toList ++ L.bs), k ≠ b := by
  have := (List.nodup_cons.1 h).1
  exact fun k hk e => this (e ▸ hk)

/-- The disk's own cells are written anew. -/
theorem DiskAt.cells {w w' : World} {b : Nat} {D : Dk} {L : Lay} (h : DiskAt w b D L) (arm : Int) (dead : Bool) (ha : -1 ≤ arm ∧ arm ≤ 9223372036854775807)
    (hb : BlockIs w' b (dkCells D.room L.bm L.sm L.v arm dead) 114) (ht : Touch (· = b) w w') : DiskAt w' b { D with arm := arm, dead := dead } L := by
  have hne := nd_ne h.nd
  have hk : ∀ k ∈ L.bm :: L.sm :: (L.v.ownBlock.toList ++ L.bs), w'.heap[k]? = w.heap[k]? := fun k hk => ht.block k (h.flt k (by simp [foot] at hk ⊢; exact Or.inr hk)) (hne k hk)
  exact
  { blk := hb
    mp := ownsKV_block h.mp (hk _ (by simp))
    sf := ownsKV_block h.sf (hk _ (by simp))
    st := ownsRow_keep h.st fun k hv => hk k (by simp [hv])
    len := h.len
    fs := fun i hi => (h.fs i hi).keep (hk _ (by
      have hi' : i < L.bs.length := by rw [h.len]; exact hi
      simp [List.getD, List.getElem?_eq_getElem hi']))
    nd := h.nd
    ok := ⟨h.ok.fol, h.ok.sur, h.ok.stp, h.ok.fap, h.ok.sap, h.ok.fln, h.ok.sln, h.ok.dat, ha, h.ok.rm, h.ok.nam, h.ok.snm⟩ }

theorem alive_at (b : Nat) (D : Dk) (L : Lay) (w : World) (h : DiskAt w b D L) :
    Calls Try.prog 61 #[.pointer (some ⟨b, 0, none⟩)] w fun e w' => e = .returned (.bool (!D.alive.dead)) ∧ DiskAt w' b D.alive L ∧ Touch (· = b) w w' := by
  refine (alive_any b _ _ _ _ _ _ w h.blk h.ok.arm).mono ?_
  rintro e w' ⟨rfl, hb, ht⟩
  exact ⟨rfl, h.cells _ _ (armNext_ok h.ok.arm) hb ht, ht⟩

theorem DiskAt.used_at {b : Nat} {D : Dk} {L : Lay} {w : World} (h : DiskAt w b D L) (hn : D.files.length ≤ 1048576) (w0 : World) (hb0 : Below w.heap.size w w0) :
    Calls Try.prog 27 #[.pointer (some ⟨b, 0, none⟩)] w0 fun e w' => e = .returned (.int .i64 D.used) ∧ Below w.heap.size w w' :=
  (used_any b D L w0 (h.below hb0) hn).mono fun _ _ ⟨he, hb⟩ => ⟨he, hb0.trans (hb.mono hb0.size)⟩

set_option maxRecDepth 100000 in
set_option maxHeartbeats 400000 in
theorem append_dead (b : Nat) (D : Dk) (L : Lay) (name data : ByteArray) (w : World) (h : DiskAt w b D L) (hd : D.alive.dead = true) :
    Calls Try.prog 26 #[.pointer (some ⟨b, 0, none⟩), .string name, .string data] w fun e w' => e = .returned (.int .i64 10) ∧ DiskAt w' b D.alive L ∧ Touch (· = b) w w' := by
  have hc := alive_at b D L w h
  rw [hd] at hc
  have Hc := Lib.hid hc
  clear hc h
  go_enter Try.func26, Try.ntmps26
  go_wp2_with (go_at_call 61; refine Hc.out.mono ?_; rintro e w' ⟨rfl, h1, ht⟩)
  go_ret
  exact ⟨rfl, h1, ht⟩

set_option maxRecDepth 100000 in
set_option maxHeartbeats 400000 in
theorem append_name (b : Nat) (D : Dk) (L : Lay) (name data : ByteArray) (w : World) (h : DiskAt w b D L) (hd : D.alive.dead = false) (hs : name.size ≤ 9223372036854775807) (hn : dkName name = false) :
    Calls Try.prog 26 #[.pointer (some ⟨b, 0, none⟩), .string name, .string data] w fun e w' => e = .returned (.int .i64 11) ∧ DiskAt w' b D.alive L ∧ Touch (· = b) w w' := by
  have hc := alive_at b D L w h
  rw [hd] at hc
  have Hc := Lib.hid hc
  have hn' := fun w => name_any name w hs
  rw [hn] at hn'
  have Hn := Lib.hid hn'
  clear hc h hn' hn
  go_enter Try.func26, Try.ntmps26
  go_wp2_with (first
    | (go_at_call 61; refine Hc.out.mono ?_; rintro e w' ⟨rfl, h1, ht⟩)
    | (go_at_call 62; refine (Hn.out _).mono ?_; rintro e w2 ⟨rfl, hb⟩))
  go_ret
  exact ⟨rfl, h1.below hb, ht.trans (Touch.of_below (fun _ => False) hb) (fun _ _ h => h.elim)⟩

/-- the disk behind an append that is taken -/
def Dk.put (D : Dk) (name data : ByteArray) : Dk :=
  match kvGet D.folder name with
  | some i => { D with files := D.files.set i { data := (D.flAt i).data ++ data, safe := (D.flAt i).safe } }
  | none => { D with files := D.files ++ [⟨data, 0⟩], folder := kvPut D.folder name D.files.length, steps := D.steps ++ [⟨1, name, name, D.files.length⟩] }
def Dk.append (D : Dk) (name data : ByteArray) : Dk × Int :=
  if D.alive.dead = true then (D.alive, 10) else if dkName name = false then (D.alive, 11) else
  if D.room - D.used < data.size then (D.alive, 9) else (D.alive.put name data, 0)

/-- What an append may turn: the disk's own blocks. -/
def DkPost (b : Nat) (L : Lay) (D' : Dk) (w w' : World) : Prop := ∃ L', DiskAt w' b D' L' ∧ Touch (· ∈ foot b L) w w' ∧ ∀ k ∈ foot b L', k ∈ foot b L ∨ w.heap.size ≤ k

theorem infoStep : (Try.prog.info? 120).map (fun i => (i.zero, i.size, i.bytes)) = some (some (.agg #[.int .i64 0, .string ⟨#[]⟩, .string ⟨#[]⟩, .pointer none]), 4, 48) := by kernel_rfl
theorem getD_mem {l : List Nat} {i : Nat} (h : i < l.length) : l.getD i 0 ∈ l := by simp [List.getD, List.getElem?_eq_getElem h]
theorem getD_inj {l : List Nat} {i j : Nat} (hn : l.Nodup) (hi : i < l.length) (hj : j < l.length) (h : l.getD i 0 = l.getD j 0) : i = j := by
  simp [List.getD, List.getElem?_eq_getElem hi, List.getElem?_eq_getElem hj] at h
  have hp := List.pairwise_iff_getElem.1 hn
  rcases Nat.lt_trichotomy i j with e | e | e
  · exact absurd h (hp i j hi hj e)
  · exact e
  · exact absurd h.symm (hp j i hj hi e)
theorem nd_bs {b : Nat} {L : Lay} (h : (foot b L).Nodup) : L.bs.Nodup := by
  simp only [foot, List.nodup_cons, List.nodup_append] at h; exact h.2.2.2.2.1
theorem nd_file {b : Nat} {L : Lay} (h : (foot b L).Nodup) {c : Nat} (hc : c ∈ L.bs) : b ≠ c ∧ L.bm ≠ c ∧ L.sm ≠ c ∧ L.v.ownBlock ≠ some c := by
  simp only [foot, List.nodup_cons, List.nodup_append, List.mem_cons, List.mem_append, Option.mem_toList, not_or] at h
  refine ⟨fun e => h.1.2.2.2 (e ▸ hc), fun e => h.2.1.2.2 (e ▸ hc), fun e => h.2.2.1.2 (e ▸ hc), fun e => h.2.2.2.2.2 c e c hc rfl⟩

/-- A file's cells are written anew. -/
theorem DiskAt.setFile {w w' : World} {b : Nat} {D : Dk} {L : Lay} (h : DiskAt w b D L) {i : Nat} (hi : i < D.files.length) (f : Fl) (hf : f.data.size ≤ 1073741824 ∧ f.safe ≤ f.data.size)
    (hblk : BlockIs w' (L.bs.getD i 0) (flCells f) 118) (ht : Touch (· = L.bs.getD i 0) w w') : DiskAt w' b { D with files := D.files.set i f } L := by
  have hi' : i < L.bs.length := by rw [h.len]; exact hi
  have hc := getD_mem hi'
  obtain ⟨n1, n2, n3, n4⟩ := nd_file h.nd hc
  exact
  { blk := h.blk.keep (ht.block _ h.blk.lt n1)
    mp := ownsKV_block h.mp (ht.block _ (ownsKV_lt h.mp) n2)
    sf := ownsKV_block h.sf (ht.block _ (ownsKV_lt h.sf) n3)
    st := ownsRow_keep h.st fun k hv => ht.block k (ownsRow_lt h.st hv).2 (fun e => n4 (by rw [hv, e]))
    len := by simp [h.len]
    fs := fun j hj => by
      simp only [List.length_set] at hj
      by_cases e : j = i
      · subst e
        have : ({ D with files := D.files.set j f } : Dk).flAt j = f := by simp [Dk.flAt, List.getD, List.getElem?_set_self hi]
        rw [this]; exact hblk
      · have hj' : j < L.bs.length := by rw [h.len]; exact hj
        have : ({ D with files := D.files.set i f } : Dk).flAt j = D.flAt j := by simp [Dk.flAt, List.getD, List.getElem?_set_ne (Ne.symm e)]
        rw [this]
        exact (h.fs j hj).keep (ht.block _ (h.fs j hj).lt (fun e' => e (getD_inj (nd_bs h.nd) hj' hi' e')))
    nd := h.nd
    ok := ⟨fun p hp => by simpa using h.ok.fol p hp, fun p hp => by simpa using h.ok.sur p hp, fun p hp => by simpa using h.ok.stp p hp, h.ok.fap, h.ok.sap, by simpa using h.ok.fln, by simpa using h.ok.sln,
      fun g hg => by
        rcases List.mem_or_eq_of_mem_set hg with hg | rfl
        · exact h.ok.dat g hg
        · exact hf, h.ok.arm, h.ok.rm, h.ok.nam, h.ok.snm⟩ }

theorem kvGet_found {w : World} {b : Nat} {D : Dk} {L : Lay} (h : DiskAt w b D L) {name : ByteArray} {i : Nat} (hg : kvGet D.folder name = some i) :
    i < D.files.length ∧ kvGet (kvMap (fileV L.bs) D.folder) name = some (fileV L.bs i) :=
  ⟨h.ok.fol _ (kvGet_mem hg), by rw [kvGet_map, hg]; rfl⟩
theorem kvGet_none {D : Dk} {L : Lay} {name : ByteArray} (hg : kvGet D.folder name = none) : kvGet (kvMap (fileV L.bs) D.folder) name = none := by rw [kvGet_map, hg]; rfl
theorem used_ge {D : Dk} {name : ByteArray} {i : Nat} (hg : kvGet D.folder name = some i) (ha : kvApart D.folder) : (D.flAt i).data.size ≤ D.used := by
  have := kvSum_del (fun i => (D.flAt i).data.size) ha (kvGet_mem hg)
  unfold Dk.used; omega

set_option maxRecDepth 100000 in
set_option maxHeartbeats 800000 in
theorem append_have (b : Nat) (D : Dk) (L : Lay) (name data : ByteArray) (w : World) (h : DiskAt w b D L) (hd : D.alive.dead = false) (hs : name.size ≤ 9223372036854775807) (hn : dkName name = true) (hds : data.size ≤ 9223372036854775807) (hf : D.files.length ≤ 1048576) (hh : (kvGet D.folder name).isSome = true ∨ D.room - D.used < data.size) :
    Calls Try.prog 26 #[.pointer (some ⟨b, 0, none⟩), .string name, .string data] w fun e w' => e = .returned (.int .i64 (D.append name data).2) ∧ DkPost b L (D.append name data).1 w w' := by
  have HH := Lib.hid hh
  clear hh
  have hc := alive_at b D L w h
  rw [hd] at hc
  have Hc := Lib.hid hc
  have hn' := fun w => name_any name w hs
  rw [hn] at hn'
  have Hn := Lib.hid hn'
  have hul := used_le h.ok hf
  have hrm := h.ok.rm
  have HD := Lib.hid hd
  have HN := Lib.hid hn
  clear hc h hn' hn hd
  go_enter Try.func26, Try.ntmps26
  go_upto_region 5 with (first
    | (go_at_call 61; refine Hc.out.mono ?_; rintro e w' ⟨rfl, h1, ht⟩)
    | (go_at_call 62; refine (Hn.out _).mono ?_; rintro e w2 ⟨rfl, hb⟩))
  have h2 := h1.below hb
  have Hu := Lib.hid (h2.used_at hf)
  have HR := Lib.hid (fun (w3 : World) (hb3 : Below w2.heap.size w2 w3) => (h2.below hb3).blk.cell 0)
  have c0 : w2.cell? ⟨b, 0, none⟩ = some (.int .i64 D.room) := h2.blk.cell 0
  have hau : (D.alive.used : Int) = D.used := rfl
  have Hau := Lib.hid hau
  clear hau
  go_cut [24] (fun s24 wc => s24 = .bool (decide (D.room - D.used < data.size)) ∧ Below w2.heap.size w2 wc)
  case first =>
    have hwr : IntKind.i64.wrap (D.room - ↑D.used) = D.room - ↑D.used := IntWalk.i64_in _ (by omega)
    go_region_with (go_at_call 27; refine (Hu.out _ ((Below.refl _ _).drew)).mono ?_; rw [Hau.out]; rintro e w3 ⟨rfl, hb3⟩; have c0' : w3.cell? ⟨b, 0, none⟩ = some (.int .i64 D.room) := HR.out _ hb3)
    all_goals (go_wp2_with fail; go_meet; exact ⟨rfl, hb3⟩)
  case rest =>
    obtain ⟨rfl, hb3⟩ := hcut
    have h3 := h2.below hb3
    by_cases hsp : D.room - D.used < data.size
    · have e : D.append name data = (D.alive, 9) := by
        unfold Dk.append; rw [if_neg (by rw [HD.out]; simp), if_neg (by rw [HN.out]; simp), if_pos hsp]
      have E := Lib.hid e
      clear e
      go_wp2
      go_ret
      rw [E.out]
      exact ⟨rfl, L, h3, (ht.trans (Touch.of_below (fun _ => False) (hb.trans (hb3.mono hb.size))) (fun _ _ h => h.elim)).mono (fun i _ hi => by simp [foot]; exact Or.inl hi), fun k hk => Or.inl hk⟩
    · have hsz : name.size ≤ maxLen := by unfold maxLen; omega
      have c1 : wc.cell? ⟨b, 1, none⟩ = some (.map (some L.bm)) := h3.blk.cell 1
      have hmp := h3.mp
      have H3 := Lib.hid h3
      have htt : Touch (· ∈ foot b L) w wc := (ht.trans (Touch.of_below (fun _ => False) (hb.trans (hb3.mono hb.size))) (fun _ _ h => h.elim)).mono (fun i _ hi => by simp [foot]; exact Or.inl hi)
      have HT := Lib.hid htt
      cases hg : kvGet D.folder name with
      | some i =>
        obtain ⟨hi, hget⟩ := kvGet_found h3 (show kvGet D.alive.folder name = some i from hg)
        have hds2 : (D.flAt i).data.size + data.size ≤ 1073741824 := by
          have h5 := used_ge (show kvGet D.alive.folder name = some i from hg) h3.ok.fap
          have h6 : (D.alive.flAt i).data.size = (D.flAt i).data.size := rfl
          have h7 : D.alive.used = D.used := rfl
          omega
        have e : D.append name data = ({ D.alive with files := D.alive.files.set i { data := (D.flAt i).data ++ data, safe := (D.flAt i).safe } }, 0) := by
          unfold Dk.append; rw [if_neg (by rw [HD.out]; simp), if_neg (by rw [HN.out]; simp), if_neg hsp]
          unfold Dk.put; rw [show kvGet D.alive.folder name = some i from hg]; rfl
        have E := Lib.hid e
        have hblk := h3.fs i hi
        have d0 : wc.cell? ⟨L.bs.getD i 0, 0, none⟩ = some (.string (D.flAt i).data) := hblk.cell 0
        have f0 : wc.frozen? ⟨L.bs.getD i 0, 0, none⟩ = false := hblk.free 0
        have hset := hblk.set 0 (.string ((D.flAt i).data ++ data))
        have HS := Lib.hid hset
        have hz0 := fun w => zero_ptr w
        clear e hg h3 htt hset hblk
        unfold fileV ptrV at hget
        have hL : ∀ x, x = L.bs.getD i 0 → x ∈ foot b L := fun x hx => by
          subst hx; simp only [foot, List.mem_cons, List.mem_append]; exact Or.inr (Or.inr (Or.inr (Or.inr (getD_mem (by rw [H3.out.len]; exact hi)))))
        have HL := Lib.hid hL
        have hfin : ∀ w', BlockIs w' (L.bs.getD i 0) (flCells { data := (D.flAt i).data ++ data, safe := (D.flAt i).safe }) 118 → Touch (· = L.bs.getD i 0) wc w' →
            DkPost b L { D.alive with files := D.alive.files.set i { data := (D.flAt i).data ++ data, safe := (D.flAt i).safe } } w w' := fun w' h1 h2 =>
          ⟨L, H3.out.setFile hi _ (by
              have h5 := (flAt_le H3.out.ok i).2
              have h6 : (D.alive.flAt i) = (D.flAt i) := rfl
              rw [h6] at h5
              simp only [ByteArray.size_append]; omega) h1 h2, HT.out.trans h2 (fun k _ hk => HL.out k hk), fun k hk => Or.inl hk⟩
        have HF := Lib.hid hfin
        clear hfin hL
        generalize L.bs.getD i 0 = c at d0 f0 hget HS HF
        go_wp2_with (first
          | (at_lookup; refine wpList_kvFound rfl _ _ 111 rfl Try.underlying9 Try.underlying111 (hz0 _) rfl hmp rfl hsz hget ?_)
          | go_in)
        go_ret
        rw [E.out]
        exact ⟨rfl, HF.out _ HS.out (Touch.setc _ _ _ _)⟩
      | none =>
        have h9 := HH.out
        rw [hg] at h9
        rcases h9 with h9 | h9
        · cases h9
        · exact absurd h9 hsp
end Go.Proofs.Ytjdkhainlcalbaa
