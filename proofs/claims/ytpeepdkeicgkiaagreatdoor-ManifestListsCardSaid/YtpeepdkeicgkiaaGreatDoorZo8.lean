/- The disk's Append. The disk's Append to a file that isn't there yet; Append as a whole. -/
import Derived.Test.YtpeepdkeicgkiaaGreatDoorZo7
import Derived.Deep.RegionHeld3
import Derived.Deep.RegionWith
import Derived.StillTailTactics
import Derived.Deep.DeepCutAuto
namespace Go.Proofs.YtpeepdkeicgkiaaGreatDoor
set_option linter.unusedVariables false
set_option linter.unusedSimpArgs false
set_option linter.unusedSectionVars false
open Go.RowKit Go.Maps

def Dk.alive (D : Dk) : Dk := { D with arm := (armNext D.arm D.dead).1, dead := (armNext D.arm D.dead).2 }
theorem armNext_ok {arm : Int} {dead : Bool} (h : -1 ≤ arm ∧ arm ≤ 9223372036854775807) : -1 ≤ (armNext arm dead).1 ∧ (armNext arm dead).1 ≤ 9223372036854775807 := by
  unfold armNext; split
  · simp
  · split <;> simp <;> omega
theorem DkOk.alive {D : Dk} (h : DkOk D) : DkOk D.alive := ⟨h.fol, h.sur, h.stp, h.fap, h.sap, h.fln, h.sln, h.dat, armNext_ok h.arm, h.rm, h.nam, h.snm⟩

theorem nd_ne {b : Nat} {L : Lay} (h : (foot b L).Nodup) : ∀ k ∈ L.bm :: L.sm :: (L.v.ownBlock.toList ++ L.bs), k ≠ b := by
  have := (List.nodup_cons.1 h).1
  exact fun k hk e => this (e ▸ hk)

/-- The disk's own cells are written anew. -/
theorem DiskAt.cells {w w' : World} {b : Nat} {D : Dk} {L : Lay} (h : DiskAt w b D L) (arm : Int) (dead : Bool) (ha : -1 ≤ arm ∧ arm ≤ 9223372036854775807)
    (hb : BlockIs w' b (dkCells D.room L.bm L.sm L.v arm dead) 72) (ht : Touch (· = b) w w') : DiskAt w' b { D with arm := arm, dead := dead } L := by
  have hne := nd_ne h.nd
  have hk : ∀ k ∈ L.bm :: L.sm :: (L.v.ownBlock.toList ++ L.bs), w'.heap[k]? = w.heap[k]? := fun k hk => ht.block k (h.flt k (by simp [foot] at hk ⊢; exact Or.inr hk)) (hne k hk)
  exact
  { blk := hb
    mp := ownsKV_block h.mp (hk _ (by simp))
    sf := ownsKV_block h.sf (hk _ (by simp))
    st := ownsRow_keep h.st fun k hv => hk k (by simp [hv])
    len := h.len
    fs := fun i hi => (h.fs i hi).keep (hk _ (by
      have hi' : i < L.bs.length := by rw [h.len]; exact hi
      simp [List.getD, List.getElem?_eq_getElem hi']))
    nd := h.nd
    ok := ⟨h.ok.fol, h.ok.sur, h.ok.stp, h.ok.fap, h.ok.sap, h.ok.fln, h.ok.sln, h.ok.dat, ha, h.ok.rm, h.ok.nam, h.ok.snm⟩ }

theorem alive_at (b : Nat) (D : Dk) (L : Lay) (w : World) (h : DiskAt w b D L) :
    Calls Tryz.prog 86 #[.pointer (some ⟨b, 0, none⟩)] w fun e w' => e = .returned (.bool (!D.alive.dead)) ∧ DiskAt w' b D.alive L ∧ Touch (· = b) w w' := by
  refine (alive_any b _ _ _ _ _ _ w h.blk h.ok.arm).mono ?_
  rintro e w' ⟨rfl, hb, ht⟩
  exact ⟨rfl, h.cells _ _ (armNext_ok h.ok.arm) hb ht, ht⟩

theorem DiskAt.used_at {b : Nat} {D : Dk} {L : Lay} {w : World} (h : DiskAt w b D L) (hn : D.files.length ≤ 1048576) (w0 : World) (hb0 : Below w.heap.size w w0) :
    Calls Tryz.prog 94 #[.pointer (some ⟨b, 0, none⟩)] w0 fun e w' => e = .returned (.int .i64 D.used) ∧ Below w.heap.size w w' :=
  (used_any b D L w0 (h.below hb0) hn).mono fun _ _ ⟨he, hb⟩ => ⟨he, hb0.trans (hb.mono hb0.size)⟩

set_option maxRecDepth 100000 in
set_option maxHeartbeats 400000 in
theorem append_dead (b : Nat) (D : Dk) (L : Lay) (name data : ByteArray) (w : World) (h : DiskAt w b D L) (hd : D.alive.dead = true) :
    Calls Tryz.prog 54 #[.pointer (some ⟨b, 0, none⟩), .string name, .string data] w fun e w' => e = .returned (.int .i64 10) ∧ DiskAt w' b D.alive L ∧ Touch (· = b) w w' := by
  have hc := alive_at b D L w h
  rw [hd] at hc
  have Hc := Lib.hid hc
  clear hc h
  go_enter Tryz.func54, Tryz.ntmps54
  go_wp2_with (go_at_call 86; refine Hc.out.mono ?_; rintro e w' ⟨rfl, h1, ht⟩)
  go_ret
  exact ⟨rfl, h1, ht⟩

set_option maxRecDepth 100000 in
set_option maxHeartbeats 400000 in
theorem append_name (b : Nat) (D : Dk) (L : Lay) (name data : ByteArray) (w : World) (h : DiskAt w b D L) (hd : D.alive.dead = false) (hs : name.size ≤ 9223372036854775807) (hn : dkName name = false) :
    Calls Tryz.prog 54 #[.pointer (some ⟨b, 0, none⟩), .string name, .string data] w fun e w' => e = .returned (.int .i64 11) ∧ DiskAt w' b D.alive L ∧ Touch (· = b) w w' := by
  have hc := alive_at b D L w h
  rw [hd] at hc
  have Hc := Lib.hid hc
  have hn' := fun w => name_any name w hs
  rw [hn] at hn'
  have Hn := Lib.hid hn'
  clear hc h hn' hn
  go_enter Tryz.func54, Tryz.ntmps54
  go_wp2_with (first
    | (go_at_call 86; refine Hc.out.mono ?_; rintro e w' ⟨rfl, h1, ht⟩)
    | (go_at_call 93; refine (Hn.out _).mono ?_; rintro e w2 ⟨rfl, hb⟩))
  go_ret
  exact ⟨rfl, h1.below hb, ht.trans (Touch.of_below (fun _ => False) hb) (fun _ _ h => h.elim)⟩

/-- the disk behind an append that is taken -/
def Dk.put (D : Dk) (name data : ByteArray) : Dk :=
  match kvGet D.folder name with
  | some i => { D with files := D.files.set i { data := (D.flAt i).data ++ data, safe := (D.flAt i).safe } }
  | none => { D with files := D.files ++ [⟨data, 0⟩], folder := kvPut D.folder name D.files.length, steps := D.steps ++ [⟨1, name, name, D.files.length⟩] }
def Dk.append (D : Dk) (name data : ByteArray) : Dk × Int :=
  if D.alive.dead = true then (D.alive, 10) else if dkName name = false then (D.alive, 11) else
  if D.room - D.used < data.size then (D.alive, 9) else (D.alive.put name data, 0)

/-- What an append may turn: the disk's own blocks. -/
def DkPost (b : Nat) (L : Lay) (D' : Dk) (w w' : World) : Prop := ∃ L', DiskAt w' b D' L' ∧ Touch (· ∈ foot b L) w w' ∧ ∀ k ∈ foot b L', k ∈ foot b L ∨ w.heap.size ≤ k

theorem infoStep : (Tryz.prog.info? 93).map (fun i => (i.zero, i.size, i.bytes)) = some (some (.agg #[.int .i64 0, .string ⟨#[]⟩, .string ⟨#[]⟩, .pointer none]), 4, 48) := by kernel_rfl
theorem getD_mem {l : List Nat} {i : Nat} (h : i < l.length) : l.getD i 0 ∈ l := by simp [List.getD, List.getElem?_eq_getElem h]
theorem getD_inj {l : List Nat} {i j : Nat} (hn : l.Nodup) (hi : i < l.length) (hj : j < l.length) (h : l.getD i 0 = l.getD j 0) : i = j := by
  simp [List.getD, List.getElem?_eq_getElem hi, List.getElem?_eq_getElem hj] at h
  have hp := List.pairwise_iff_getElem.1 hn
  rcases Nat.lt_trichotomy i j with e | e | e
  · exact absurd h (hp i j hi hj e)
  · exact e
  · exact absurd h.symm (hp j i hj hi e)
theorem nd_bs {b : Nat} {L : Lay} (h : (foot b L).Nodup) : L.bs.Nodup := by
  simp only [foot, List.nodup_cons, List.nodup_append] at h; exact h.2.2.2.2.1
theorem nd_file {b : Nat} {L : Lay} (h : (foot b L).Nodup) {c : Nat} (hc : c ∈ L.bs) : b ≠ c ∧ L.bm ≠ c ∧ L.sm ≠ c ∧ L.v.ownBlock ≠ some c := by
  simp only [foot, List.nodup_cons, List.nodup_append, List.mem_cons, List.mem_append, Option.mem_toList, not_or] at h
  refine ⟨fun e => h.1.2.2.2 (e ▸ hc), fun e => h.2.1.2.2 (e ▸ hc), fun e => h.2.2.1.2 (e ▸ hc), fun e => h.2.2.2.2.2 c e c hc rfl⟩

/-- A file's cells are written anew. -/
theorem DiskAt.setFile {w w' : World} {b : Nat} {D : Dk} {L : Lay} (h : DiskAt w b D L) {i : Nat} (hi : i < D.files.length) (f : Fl) (hf : f.data.size ≤ 1073741824 ∧ f.safe ≤ f.data.size)
    (hblk : BlockIs w' (L.bs.getD i 0) (flCells f) 101) (ht : Touch (· = L.bs.getD i 0) w w') : DiskAt w' b { D with files := D.files.set i f } L := by
  have hi' : i < L.bs.length := by rw [h.len]; exact hi
  have hc := getD_mem hi'
  obtain ⟨n1, n2, n3, n4⟩ := nd_file h.nd hc
  exact
  { blk := h.blk.keep (ht.block _ h.blk.lt n1)
    mp := ownsKV_block h.mp (ht.block _ (ownsKV_lt h.mp) n2)
    sf := ownsKV_block h.sf (ht.block _ (ownsKV_lt h.sf) n3)
    st := ownsRow_keep h.st fun k hv => ht.block k (ownsRow_lt h.st hv).2 (fun e => n4 (by rw [hv, e]))
    len := by simp [h.len]
    fs := fun j hj => by
      simp only [List.length_set] at hj
      by_cases e : j = i
      · subst e
        have : ({ D with files := D.files.set j f } : Dk).flAt j = f := by simp [Dk.flAt, List.getD, List.getElem?_set_self hi]
        rw [this]; exact hblk
      · have hj' : j < L.bs.length := by rw [h.len]; exact hj
        have : ({ D with files := D.files.set i f } : Dk).flAt j = D.flAt j := by simp [Dk.flAt, List.getD, List.getElem?_set_ne (Ne.symm e)]
        rw [this]
        exact (h.fs j hj).keep (ht.block _ (h.fs j hj).lt (fun e' => e (getD_inj (nd_bs h.nd) hj' hi' e')))
    nd := h.nd
    ok := ⟨fun p hp => by simpa using h.ok.fol p hp, fun p hp => by simpa using h.ok.sur p hp, fun p hp => by simpa using h.ok.stp p hp, h.ok.fap, h.ok.sap, by simpa using h.ok.fln, by simpa using h.ok.sln,
      fun g hg => by
        rcases List.mem_or_eq_of_mem_set hg with hg | rfl
        · exact h.ok.dat g hg
        · exact hf, h.ok.arm, h.ok.rm, h.ok.nam, h.ok.snm⟩ }

theorem kvGet_found {w : World} {b : Nat} {D : Dk} {L : Lay} (h : DiskAt w b D L) {name : ByteArray} {i : Nat} (hg : kvGet D.folder name = some i) :
    i < D.files.length ∧ kvGet (kvMap (fileV L.bs) D.folder) name = some (fileV L.bs i) :=
  ⟨h.ok.fol _ (kvGet_mem hg), by rw [kvGet_map, hg]; rfl⟩
theorem kvGet_none {D : Dk} {L : Lay} {name : ByteArray} (hg : kvGet D.folder name = none) : kvGet (kvMap (fileV L.bs) D.folder) name = none := by rw [kvGet_map, hg]; rfl
theorem used_ge {D : Dk} {name : ByteArray} {i : Nat} (hg : kvGet D.folder name = some i) (ha : kvApart D.folder) : (D.flAt i).data.size ≤ D.used := by
  have := kvSum_del (fun i => (D.flAt i).data.size) ha (kvGet_mem hg)
  unfold Dk.used; omega

set_option maxRecDepth 100000 in
set_option maxHeartbeats 800000 in
theorem append_have (b : Nat) (D : Dk) (L : Lay) (name data : ByteArray) (w : World) (h : DiskAt w b D L) (hd : D.alive.dead = false) (hs : name.size ≤ 9223372036854775807) (hn : dkName name = true) (hds : data.size ≤ 9223372036854775807) (hf : D.files.length ≤ 1048576) (hh : (kvGet D.folder name).isSome = true ∨ D.room - D.used < data.size) :
    Calls Tryz.prog 54 #[.pointer (some ⟨b, 0, none⟩), .string name, .string data] w fun e w' => e = .returned (.int .i64 (D.append name data).2) ∧ DkPost b L (D.append name data).1 w w' := by
  have HH := Lib.hid hh
  clear hh
  have hc := alive_at b D L w h
  rw [hd] at hc
  have Hc := Lib.hid hc
  have hn' := fun w => name_any name w hs
  rw [hn] at hn'
  have Hn := Lib.hid hn'
  have hul := used_le h.ok hf
  have hrm := h.ok.rm
  have HD := Lib.hid hd
  have HN := Lib.hid hn
  clear hc h hn' hn hd
  go_enter Tryz.func54, Tryz.ntmps54
  go_upto_region 5 with (first
    | (go_at_call 86; refine Hc.out.mono ?_; rintro e w' ⟨rfl, h1, ht⟩)
    | (go_at_call 93; refine (Hn.out _).mono ?_; rintro e w2 ⟨rfl, hb⟩))
  have h2 := h1.below hb
  have Hu := Lib.hid (h2.used_at hf)
  have HR := Lib.hid (fun (w3 : World) (hb3 : Below w2.heap.size w2 w3) => (h2.below hb3).blk.cell 0)
  have c0 : w2.cell? ⟨b, 0, none⟩ = some (.int .i64 D.room) := h2.blk.cell 0
  have hau : (D.alive.used : Int) = D.used := rfl
  have Hau := Lib.hid hau
  clear hau
  go_cut [24] (fun s24 wc => s24 = .bool (decide (D.room - D.used < data.size)) ∧ Below w2.heap.size w2 wc)
  case first =>
    have hwr : IntKind.i64.wrap (D.room - ↑D.used) = D.room - ↑D.used := IntWalk.i64_in _ (by omega)
    go_region_with (go_at_call 94; refine (Hu.out _ ((Below.refl _ _).drew)).mono ?_; rw [Hau.out]; rintro e w3 ⟨rfl, hb3⟩; have c0' : w3.cell? ⟨b, 0, none⟩ = some (.int .i64 D.room) := HR.out _ hb3)
    all_goals (go_wp2_with fail; go_meet; exact ⟨rfl, hb3⟩)
  case rest =>
    obtain ⟨rfl, hb3⟩ := hcut
    have h3 := h2.below hb3
    by_cases hsp : D.room - D.used < data.size
    · have e : D.append name data = (D.alive, 9) := by
        unfold Dk.append; rw [if_neg (by rw [HD.out]; simp), if_neg (by rw [HN.out]; simp), if_pos hsp]
      have E := Lib.hid e
      clear e
      go_wp2
      go_ret
      rw [E.out]
      exact ⟨rfl, L, h3, (ht.trans (Touch.of_below (fun _ => False) (hb.trans (hb3.mono hb.size))) (fun _ _ h => h.elim)).mono (fun i _ hi => by simp [foot]; exact Or.inl hi), fun k hk => Or.inl hk⟩
    · have hsz : name.size ≤ maxLen := by unfold maxLen; omega
      have c1 : wc.cell? ⟨b, 1, none⟩ = some (.map (some L.bm)) := h3.blk.cell 1
      have hmp := h3.mp
      have H3 := Lib.hid h3
      have htt : Touch (· ∈ foot b L) w wc := (ht.trans (Touch.of_below (fun _ => False) (hb.trans (hb3.mono hb.size))) (fun _ _ h => h.elim)).mono (fun i _ hi => by simp [foot]; exact Or.inl hi)
      have HT := Lib.hid htt
      cases hg : kvGet D.folder name with
      | some i =>
        obtain ⟨hi, hget⟩ := kvGet_found h3 (show kvGet D.alive.folder name = some i from hg)
        have hds2 : (D.flAt i).data.size + data.size ≤ 1073741824 := by
          have h5 := used_ge (show kvGet D.alive.folder name = some i from hg) h3.ok.fap
          have h6 : (D.alive.flAt i).data.size = (D.flAt i).data.size := rfl
          have h7 : D.alive.used = D.used := rfl
          omega
        have e : D.append name data = ({ D.alive with files := D.alive.files.set i { data := (D.flAt i).data ++ data, safe := (D.flAt i).safe } }, 0) := by
          unfold Dk.append; rw [if_neg (by rw [HD.out]; simp), if_neg (by rw [HN.out]; simp), if_neg hsp]
          unfold Dk.put; rw [show kvGet D.alive.folder name = some i from hg]; rfl
        have E := Lib.hid e
        have hblk := h3.fs i hi
        have d0 : wc.cell? ⟨L.bs.getD i 0, 0, none⟩ = some (.string (D.flAt i).data) := hblk.cell 0
        have f0 : wc.frozen? ⟨L.bs.getD i 0, 0, none⟩ = false := hblk.free 0
        have hset := hblk.set 0 (.string ((D.flAt i).data ++ data))
        have HS := Lib.hid hset
        have hz0 := fun w => zero_ptr w
        clear e hg h3 htt hset hblk
        unfold fileV ptrV at hget
        have hL : ∀ x, x = L.bs.getD i 0 → x ∈ foot b L := fun x hx => by
          subst hx; simp only [foot, List.mem_cons, List.mem_append]; exact Or.inr (Or.inr (Or.inr (Or.inr (getD_mem (by rw [H3.out.len]; exact hi)))))
        have HL := Lib.hid hL
        have hfin : ∀ w', BlockIs w' (L.bs.getD i 0) (flCells { data := (D.flAt i).data ++ data, safe := (D.flAt i).safe }) 101 → Touch (· = L.bs.getD i 0) wc w' →
            DkPost b L { D.alive with files := D.alive.files.set i { data := (D.flAt i).data ++ data, safe := (D.flAt i).safe } } w w' := fun w' h1 h2 =>
          ⟨L, H3.out.setFile hi _ (by
              have h5 := (flAt_le H3.out.ok i).2
              have h6 : (D.alive.flAt i) = (D.flAt i) := rfl
              rw [h6] at h5
              simp only [ByteArray.size_append]; omega) h1 h2, HT.out.trans h2 (fun k _ hk => HL.out k hk), fun k hk => Or.inl hk⟩
        have HF := Lib.hid hfin
        clear hfin hL
        generalize L.bs.getD i 0 = c at d0 f0 hget HS HF
        go_wp2_with (first
          | (at_lookup; refine wpList_kvFound rfl _ _ 69 rfl Tryz.underlying9 Tryz.underlying69 (hz0 _) rfl hmp rfl hsz hget ?_)
          | go_in)
        go_ret
        rw [E.out]
        exact ⟨rfl, HF.out _ HS.out (Touch.setc _ _ _ _)⟩
      | none =>
        have h9 := HH.out
        rw [hg] at h9
        rcases h9 with h9 | h9
        · cases h9
        · exact absurd h9 hsp
end Go.Proofs.YtpeepdkeicgkiaaGreatDoor
namespace Go.Proofs.YtpeepdkeicgkiaaGreatDoor
set_option linter.unusedVariables false
set_option linter.unusedSimpArgs false
set_option linter.unusedSectionVars false
open Go.RowKit Go.Maps

theorem own_foot {b : Nat} {L : Lay} {k : Nat} (h : L.v.ownBlock = some k) : k ∈ foot b L := by simp [foot, h]
theorem fileV_old {bs more : List Nat} {i : Nat} (h : i < bs.length) : fileV (bs ++ more) i = fileV bs i := by
  unfold fileV; congr 1; simp [List.getD, List.getElem?_append_left h]
theorem fileV_new (bs : List Nat) (n : Nat) : fileV (bs ++ [n]) bs.length = ptrV n := by
  unfold fileV; congr 1; simp [List.getD]
theorem stepCells_old {bs more : List Nat} {s : Sp} (h : s.id < bs.length) : stepCells (bs ++ more) s = stepCells bs s := by unfold stepCells; rw [fileV_old h]
theorem steps_old {bs more : List Nat} {l : List Sp} (h : ∀ s ∈ l, s.id < bs.length) : l.flatMap (stepCells (bs ++ more)) = l.flatMap (stepCells bs) := by
  induction l with
  | nil => rfl
  | cons x r ih => rw [List.flatMap_cons, List.flatMap_cons, stepCells_old (h x (by simp)), ih (fun s hs => h s (by simp [hs]))]

/-- A file is new. -/
theorem DiskAt.push {w w' : World} {b : Nat} {D : Dk} {L : Lay} (h : DiskAt w b D L) {name data : ByteArray} {g cap n0 : Nat} (hname : name.size ≤ 80) (hdata : data.size ≤ 1073741824)
    (hn0 : w.heap.size ≤ n0) (hg5 : L.v.ownBlock = some g ∨ (w.heap.size ≤ g ∧ g ≠ n0))
    (hblk : BlockIs w' b (dkCells D.room L.bm L.sm (.slice (some ⟨g, 0, none⟩) (D.steps.length + 1) cap) D.arm D.dead) 72)
    (hmp : ownsKV w' Tryz.prog 9 L.bm (kvPut (kvMap (fileV L.bs) D.folder) name (ptrV n0)))
    (hst : w'.ownsRow 0 93 4 (.slice (some ⟨g, 0, none⟩) (D.steps.length + 1) cap) (D.steps.length + 1) (D.steps.flatMap (stepCells L.bs) ++ [.int .i64 1, .string name, .string name, ptrV n0]))
    (hfl : BlockIs w' n0 (flCells ⟨data, 0⟩) 101) (hrest : ∀ k ∈ L.sm :: L.bs, w'.heap[k]? = w.heap[k]?) :
    DiskAt w' b { D with files := D.files ++ [⟨data, 0⟩], folder := kvPut D.folder name D.files.length, steps := D.steps ++ [⟨1, name, name, D.files.length⟩] } ⟨L.bm, L.sm, .slice (some ⟨g, 0, none⟩) (D.steps.length + 1) cap, L.bs ++ [n0]⟩ := by
  have hlt := h.flt
  have hid : ∀ i, i < D.files.length → i < L.bs.length := fun i hi => by rw [h.len]; exact hi
  exact
  { blk := hblk.keep rfl
    mp := by
      rw [← fileV_new L.bs n0, ← kvMap_congr (f := fileV (L.bs ++ [n0])) (fun p hp => fileV_old (hid _ (h.ok.fol p hp))), kvPut_map, h.len] at hmp
      exact hmp
    sf := by
      have := ownsKV_block h.sf (hrest _ (by simp))
      rw [← kvMap_congr (f := fileV (L.bs ++ [n0])) (fun p hp => fileV_old (hid _ (h.ok.sur p hp)))] at this
      exact this
    st := by
      rw [← fileV_new L.bs n0, ← steps_old (more := [n0]) (fun s hs => hid _ (h.ok.stp s hs).1), h.len] at hst
      have e : (D.steps ++ ([⟨1, name, name, D.files.length⟩] : List Sp)).flatMap (stepCells (L.bs ++ [n0])) = D.steps.flatMap (stepCells (L.bs ++ [n0])) ++ [.int .i64 1, .string name, .string name, fileV (L.bs ++ [n0]) D.files.length] := by
        rw [List.flatMap_append]; rfl
      simp only [List.length_append, List.length_cons, List.length_nil]
      rw [e]; exact hst
    len := by simp [h.len]
    fs := fun i hi => by
      simp only [List.length_append, List.length_cons, List.length_nil] at hi
      by_cases e : i < D.files.length
      · have h1 : (L.bs ++ [n0]).getD i 0 = L.bs.getD i 0 := by simp [List.getD, List.getElem?_append_left (hid i e)]
        have h2 : ({ D with files := D.files ++ [⟨data, 0⟩], folder := kvPut D.folder name D.files.length, steps := D.steps ++ [⟨1, name, name, D.files.length⟩] } : Dk).flAt i = D.flAt i := by
          simp [Dk.flAt, List.getD, List.getElem?_append_left e]
        rw [h1, h2]
        exact (h.fs i e).keep (hrest _ (List.mem_cons_of_mem _ (getD_mem (hid i e))))
      · obtain rfl : i = D.files.length := by omega
        have h1 : (L.bs ++ [n0]).getD D.files.length 0 = n0 := by rw [← h.len]; simp [List.getD]
        have h2 : ({ D with files := D.files ++ [⟨data, 0⟩], folder := kvPut D.folder name D.files.length, steps := D.steps ++ [⟨1, name, name, D.files.length⟩] } : Dk).flAt D.files.length = ⟨data, 0⟩ := by
          simp [Dk.flAt, List.getD]
        rw [h1, h2]; exact hfl
    nd := by
      have hnd := h.nd
      have hb := hlt b (by simp [foot])
      have hbm := hlt L.bm (by simp [foot])
      have hsm := hlt L.sm (by simp [foot])
      have hbs : ∀ k ∈ L.bs, k < w.heap.size := fun k hk => hlt k (by simp [foot, hk])
      have hv : ∀ k, L.v.ownBlock = some k → k < w.heap.size := fun k hk => hlt k (by simp [foot, hk])
      simp only [foot, List.nodup_cons, List.nodup_append, List.mem_cons, List.mem_append, Option.mem_toList, not_or, List.not_mem_nil, not_false_eq_true, List.nodup_nil, and_true, true_and, or_false] at hnd ⊢
      have hgs : ∀ k, k ∈ Option.some g → k = g := fun k hk => by simpa using hk.symm
      have hgg : g ≠ n0 ∧ b ≠ g ∧ L.bm ≠ g ∧ L.sm ≠ g ∧ ∀ k ∈ L.bs, g ≠ k := by
        rcases hg5 with e | ⟨e1, e2⟩
        · have := hv g e
          exact ⟨by omega, fun x => hnd.1.2.2.1 (x ▸ e), fun x => hnd.2.1.2.1 (x ▸ e), fun x => hnd.2.2.1.1 (x ▸ e), fun k hk => hnd.2.2.2.2.2 g e k hk⟩
        · exact ⟨e2, by omega, by omega, by omega, fun k hk => by have := hbs k hk; omega⟩
      simp only [Value.ownBlock, Option.toList, List.nodup_cons, List.not_mem_nil, not_false_eq_true, List.nodup_nil, and_true, true_and, Option.some.injEq]
      refine ⟨⟨hnd.1.1, hnd.1.2.1, fun x => hgg.2.1 x.symm, hnd.1.2.2.2, by omega⟩, ⟨hnd.2.1.1, fun x => hgg.2.2.1 x.symm, hnd.2.1.2.2, by omega⟩, ⟨fun x => hgg.2.2.2.1 x.symm, hnd.2.2.1.2, by omega⟩, ⟨hnd.2.2.2.2.1, ?_⟩, ?_⟩
      · intro k hk j hj; subst hj; have := hbs k hk; omega
      · intro k hk j hj
        subst hk
        rcases hj with hj | rfl
        · exact hgg.2.2.2.2 j hj
        · exact hgg.1
    ok :=
      { fol := fun p hp => by
          simp only [List.length_append, List.length_cons, List.length_nil]
          rcases kvPut_mem hp with rfl | hp
          · simp
          · have := h.ok.fol p hp; omega
        sur := fun p hp => by simp only [List.length_append, List.length_cons, List.length_nil]; have := h.ok.sur p hp; omega
        stp := fun s hs => by
          simp only [List.length_append, List.length_cons, List.length_nil]
          rcases List.mem_append.1 hs with hs | hs
          · have := h.ok.stp s hs; exact ⟨by omega, this.2⟩
          · simp at hs; subst hs; exact ⟨by simp, hname, hname⟩
        fap := kvApart_put _ _ h.ok.fap
        sap := h.ok.sap
        fln := by have := kvPut_len D.folder name D.files.length; have h2 := h.ok.fln; simp; omega
        sln := by have := h.ok.sln; simp; omega
        dat := fun f hf => by
          rcases List.mem_append.1 hf with hf | hf
          · exact h.ok.dat f hf
          · simp at hf; subst hf; exact ⟨hdata, Nat.zero_le _⟩
        arm := h.ok.arm
        rm := h.ok.rm
        nam := fun p hp => by
          rcases kvPut_mem hp with rfl | hp
          · exact hname
          · exact h.ok.nam p hp
        snm := h.ok.snm } }

set_option maxRecDepth 100000 in
set_option maxHeartbeats 800000 in
theorem append_new (b : Nat) (D : Dk) (L : Lay) (name data : ByteArray) (w : World) (h : DiskAt w b D L) (hd : D.alive.dead = false) (hs : name.size ≤ 9223372036854775807) (hn : dkName name = true) (hds : data.size ≤ 9223372036854775807) (hf : D.files.length ≤ 1048576) (hst0 : D.steps.length ≤ 1048576) (hg0 : kvGet D.folder name = none) (hsp0 : ¬ D.room - D.used < data.size) :
    Calls Tryz.prog 54 #[.pointer (some ⟨b, 0, none⟩), .string name, .string data] w fun e w' => e = .returned (.int .i64 (D.append name data).2) ∧ DkPost b L (D.append name data).1 w w' := by
  have HG := Lib.hid hg0
  have HSP := Lib.hid hsp0
  have hsp1 : decide (D.room - D.used < data.size) = false := by simpa using hsp0
  clear hg0 hsp0
  have hc := alive_at b D L w h
  rw [hd] at hc
  have Hc := Lib.hid hc
  have hn' := fun w => name_any name w hs
  rw [hn] at hn'
  have Hn := Lib.hid hn'
  have hul := used_le h.ok hf
  have hrm := h.ok.rm
  have HD := Lib.hid hd
  have HN := Lib.hid hn
  clear hc h hn' hn hd
  go_enter Tryz.func54, Tryz.ntmps54
  go_upto_region 5 with (first
    | (go_at_call 86; refine Hc.out.mono ?_; rintro e w' ⟨rfl, h1, ht⟩)
    | (go_at_call 93; refine (Hn.out _).mono ?_; rintro e w2 ⟨rfl, hb⟩))
  have h2 := h1.below hb
  have Hu := Lib.hid (h2.used_at hf)
  have HR := Lib.hid (fun (w3 : World) (hb3 : Below w2.heap.size w2 w3) => (h2.below hb3).blk.cell 0)
  have c0 : w2.cell? ⟨b, 0, none⟩ = some (.int .i64 D.room) := h2.blk.cell 0
  have hau : (D.alive.used : Int) = D.used := rfl
  have Hau := Lib.hid hau
  clear hau
  go_cut [24] (fun s24 wc => s24 = .bool false ∧ Below w2.heap.size w2 wc)
  case first =>
    have hwr : IntKind.i64.wrap (D.room - ↑D.used) = D.room - ↑D.used := IntWalk.i64_in _ (by omega)
    go_region_with (go_at_call 94; refine (Hu.out _ ((Below.refl _ _).drew)).mono ?_; rw [Hau.out]; rintro e w3 ⟨rfl, hb3⟩; have c0' : w3.cell? ⟨b, 0, none⟩ = some (.int .i64 D.room) := HR.out _ hb3)
    all_goals (go_wp2_with fail; go_meet; exact ⟨rfl, hb3⟩)
  case rest =>
    obtain ⟨rfl, hb3⟩ := hcut
    have h3 := h2.below hb3
    have hsz : name.size ≤ maxLen := by unfold maxLen; omega
    have c1 : wc.cell? ⟨b, 1, none⟩ = some (.map (some L.bm)) := h3.blk.cell 1
    have hmp := h3.mp
    have H3 := Lib.hid h3
    have htt : Touch (· ∈ foot b L) w wc := (ht.trans (Touch.of_below (fun _ => False) (hb.trans (hb3.mono hb.size))) (fun _ _ h => h.elim)).mono (fun i _ hi => by simp [foot]; exact Or.inl hi)
    have HT := Lib.hid htt
    have hget := kvGet_none (L := L) (show kvGet D.alive.folder name = none from HG.out)
    have e : D.append name data = ({ D.alive with files := D.alive.files ++ [⟨data, 0⟩], folder := kvPut D.alive.folder name D.alive.files.length, steps := D.alive.steps ++ [⟨1, name, name, D.alive.files.length⟩] }, 0) := by
      unfold Dk.append; rw [if_neg (by rw [HD.out]; simp), if_neg (by rw [HN.out]; simp), if_neg (by have := HSP.out; omega)]
      unfold Dk.put; rw [show kvGet D.alive.folder name = none from HG.out]
    have E := Lib.hid e
    have hz0 := fun w => zero_ptr w
    have hlen : (kvMap (fileV L.bs) D.alive.folder).length ≤ 1048576 := by rw [kvMap_len]; have := h3.ok.fln; exact Nat.le_trans this hf
    have hst := h3.st
    have c3 : wc.cell? ⟨b, 3, none⟩ = some L.v := h3.blk.cell 3
    have hbne : wc.heap.size ≠ b := by have := h3.blk.lt; omega
    have hmp' : ∀ o, ownsKV (wc.alloc o) Tryz.prog 9 L.bm (kvMap (fileV L.bs) D.alive.folder) := fun o => ownsKV_block hmp (Below.heap_alloc _ _ _ (ownsKV_lt hmp))
    have HM := Lib.hid hmp'
    have hc1' : ∀ o, (wc.alloc o).cell? ⟨b, 1, none⟩ = some (.map (some L.bm)) := fun o => by rw [World.cell?_alloc_past _ _ _ h3.blk.lt]; exact c1
    have hlt := h3.flt
    have HLT := Lib.hid hlt
    have hnb : L.bm ≠ b ∧ ∀ k, L.v.ownBlock = some k → k ≠ b ∧ k ≠ L.bm := by
      have hnd := h3.nd
      simp only [foot, List.nodup_cons, List.nodup_append, List.mem_cons, List.mem_append, Option.mem_toList, not_or] at hnd
      exact ⟨fun e => hnd.1.1 e.symm, fun k hk => ⟨fun e => hnd.1.2.2.1 (e ▸ hk), fun e => hnd.2.1.2.1 (e ▸ hk)⟩⟩
    have HNB := Lib.hid hnb
    have HBL := Lib.hid h3.blk
    have HST := Lib.hid hst
    have HLE := Lib.hid hlen
    have hsl : D.alive.steps.length + 1 ≤ 1048577 := Nat.succ_le_succ hst0
    clear e h3 htt hmp' hlt hnb hst hlen
    go_wp2_with (first
      | (at_lookup; refine wpList_kvNone rfl _ _ 69 rfl Tryz.underlying9 Tryz.underlying69 (hz0 _) rfl hmp rfl hsz hget ?_)
      | (at_mapUpdate; refine wpList_kvStore rfl _ _ _ 69 rfl Tryz.underlying9 Tryz.underlying69 rfl (HM.out _) (Nat.lt_of_le_of_lt HLE.out (by decide)) rfl hsz rfl ?_; intro w4 hmp4 htu4;
          have hT4 := Touch.of_turned htu4; have hbl4 : BlockIs w4 b (dkCells D.alive.room L.bm L.sm L.v D.alive.arm D.alive.dead) 72 := HBL.out.keep (by rw [hT4.block _ (by simp; have := HBL.out.lt; omega) (fun e => HNB.out.1 e.symm)]; exact Below.heap_alloc _ _ _ HBL.out.lt);
          have c34 : w4.cell? ⟨b, 3, none⟩ = some L.v := hbl4.cell 3;
          have hst4 : w4.ownsRow 0 93 4 L.v D.alive.steps.length (D.alive.steps.flatMap (stepCells L.bs)) := ownsRow_keep HST.out (fun k hv => by rw [hT4.block _ (by have := (ownsRow_lt HST.out hv).2; simp; omega) (HNB.out.2 k hv).2]; exact Below.heap_alloc _ _ _ (ownsRow_lt HST.out hv).2))
      | (at_builtin; refine wpList_app1 rfl _ _ 70 rfl 0 93 Tryz.underlying70 infoStep rfl (by decide) _ _ _ rfl hst4 _ rfl rfl (by simp [Value.oneCell']) ?_ ?_ (Nat.zero_le _) ?_; omega; omega; intro g5 cap5 w5 hst5 hgr5 _ hloc5;
          have hb5 : BlockIs w5 b (dkCells D.alive.room L.bm L.sm L.v D.alive.arm D.alive.dead) 72 := hbl4.keep (hgr5.block _ hbl4.lt (fun e => (HNB.out.2 b e.symm).1 rfl));
          have c35 : w5.cell? ⟨b, 3, none⟩ = some L.v := hb5.cell 3;
          have f35 : w5.frozen? ⟨b, 3, none⟩ = false := hb5.free 3;
          have hfl5 : BlockIs w5 wc.heap.size #[.string ⟨#[]⟩, .int .i64 0] 101 := (BlockIs.new wc #[.string ⟨#[]⟩, .int .i64 0] 101).keep (by rw [hgr5.block _ (by have := hT4.size; simp at this; omega) (fun e => by have := (ownsRow_lt HST.out e.symm).2; omega), hT4.block _ (by simp) (fun e => by have := ownsKV_lt hmp; omega)]);
          have d05 : ∀ u, (w5.setCell ⟨b, 3, none⟩ u).cell? ⟨wc.heap.size, 0, none⟩ = some (.string ⟨#[]⟩) := fun u => ((Touch.setc w5 b 3 u).cell hfl5.lt hbne).trans (hfl5.cell 0);
          have e05 : ∀ u, (w5.setCell ⟨b, 3, none⟩ u).frozen? ⟨wc.heap.size, 0, none⟩ = false := fun u => ((Touch.setc w5 b 3 u).frozen hfl5.lt hbne).trans (hfl5.free 0))
      | go_in)
    go_ret
    have hde : (⟨#[]⟩ ++ data : ByteArray) = data := ByteArray.ext (by simp)
    rw [hde, E.out]
    clear hc1' c1 c0 d05 e05 hz0 hget E
    have hn4 : wc.heap.size + 1 ≤ w4.heap.size := by have := hT4.size; simpa using this
    have hn5 := hgr5.size
    have hlb := HBL.out.lt
    have hbm := ownsKV_lt hmp
    have hd2 : data.size ≤ 1073741824 := by have := HSP.out; omega
    have hnm : name.size ≤ 80 := by
      have h9 := HN.out; unfold dkName at h9; simp only [Bool.and_eq_true, decide_eq_true_eq] at h9; exact h9.2
    have hg5 : L.v.ownBlock = some g5 ∨ (wc.heap.size ≤ g5 ∧ g5 ≠ wc.heap.size) := hloc5.imp id fun e => by omega
    have hgb : g5 ≠ b ∧ g5 ≠ wc.heap.size := by
      rcases hg5 with e | e
      · exact ⟨(HNB.out.2 _ e).1, by have := (ownsRow_lt HST.out e).2; omega⟩
      · exact ⟨by omega, e.2⟩
    generalize hw6 : (w5.setCell ⟨b, 3, none⟩ (.slice (some ⟨g5, 0, none⟩) (D.alive.steps.length + 1) cap5)) = w6
    have t6 : Touch (· = b) w5 w6 := hw6 ▸ Touch.setc _ _ _ _
    generalize hw7 : (w6.setCell ⟨wc.heap.size, 0, none⟩ (.string data)) = w7
    have t7 : Touch (· = wc.heap.size) w6 w7 := hw7 ▸ Touch.setc _ _ _ _
    have hold : ∀ k, k < wc.heap.size → k ≠ b → k ≠ L.bm → L.v.ownBlock ≠ some k → w7.heap[k]? = wc.heap[k]? := by
      intro k h1 h2 h3 h4
      have hz6 := t6.size
      rw [t7.block k (by omega) (by omega), t6.block k (by omega) h2, hgr5.block k (by omega) (fun e => h4 e.symm), hT4.block k (by simp; omega) h3]
      exact Below.heap_alloc _ _ _ h1
    have hTT : Touch (· ∈ foot b L) wc w7 :=
      (((((Touch.alloc (· ∈ foot b L) wc _).trans hT4 (fun i _ hi => by simp [foot, hi])).trans (Touch.of_grown hgr5) (fun i _ hi => own_foot hi)).trans t6 (fun i _ hi => by simp [foot, hi])).trans t7 (fun i hi e => absurd hi (by omega)))
    refine ⟨rfl, _, H3.out.push (w' := w7) (g := g5) (cap := cap5) (n0 := wc.heap.size) hnm hd2 (Nat.le_refl _) hg5 ?_ ?_ ?_ ?_ ?_, HT.out.trans hTT (fun i _ h => h), ?_⟩
    · have h8 := (hb5.set 3 (.slice (some ⟨g5, 0, none⟩) (D.alive.steps.length + 1) cap5))
      rw [hw6] at h8
      exact h8.keep (t7.block b (by have := t6.size; omega) (fun e => hbne e.symm))
    · exact ownsKV_block hmp4 (by rw [t7.block L.bm (by have := t6.size; omega) (by omega), t6.block L.bm (by omega) HNB.out.1, hgr5.block L.bm (by omega) (fun e => (HNB.out.2 _ e.symm).2 rfl)])
    · refine ownsRow_keep hst5 fun k hk => ?_
      simp [Value.ownBlock] at hk
      subst hk
      have h9 := (ownsRow_lt hst5 (k := g5) rfl).2
      rw [t7.block g5 (by have := t6.size; omega) hgb.2, t6.block g5 h9 hgb.1]
    · have h8 := (hfl5.keep (t6.block _ hfl5.lt hbne)).set 0 (.string data)
      rw [hw7] at h8
      exact h8
    · intro k hk
      have hnd := H3.out.nd
      simp only [foot, List.nodup_cons, List.nodup_append, List.mem_cons, List.mem_append, Option.mem_toList, not_or] at hnd
      have hkl := HLT.out k (by simp only [foot, List.mem_cons, List.mem_append] at hk ⊢; rcases hk with hk | hk <;> simp [hk])
      rcases List.mem_cons.1 hk with rfl | hk
      · exact hold _ hkl (fun e => hnd.1.2.1 e.symm) (fun e => hnd.2.1.1 e.symm) (fun e => hnd.2.2.1.1 (by simpa using e))
      · exact hold _ hkl (fun e => hnd.1.2.2.2 (e ▸ hk)) (fun e => hnd.2.1.2.2 (e ▸ hk)) (fun e => hnd.2.2.2.2.2 k (by simpa using e) k hk rfl)
    · intro k hk
      have hw := (HT.out).size
      have hk : k = b ∨ k = L.bm ∨ k = L.sm ∨ some g5 = some k ∨ k ∈ L.bs ∨ k = wc.heap.size := by
        simpa only [foot, List.mem_cons, List.mem_append, Value.ownBlock, Option.mem_toList, List.not_mem_nil, or_false] using hk
      rcases hk with rfl | rfl | rfl | hk | hk | rfl
      · exact Or.inl (by simp [foot])
      · exact Or.inl (by simp [foot])
      · exact Or.inl (by simp [foot])
      · obtain rfl := Option.some.inj hk
        rcases hg5 with e | e
        · exact Or.inl (own_foot e)
        · exact Or.inr (by omega)
      · exact Or.inl (by simp [foot, hk])
      · exact Or.inr hw

theorem append_any (b : Nat) (D : Dk) (L : Lay) (name data : ByteArray) (w : World) (h : DiskAt w b D L) (hs : name.size ≤ 9223372036854775807) (hds : data.size ≤ 9223372036854775807) (hf : D.files.length ≤ 1048576) (hst0 : D.steps.length ≤ 1048576) :
    Calls Tryz.prog 54 #[.pointer (some ⟨b, 0, none⟩), .string name, .string data] w fun e w' => e = .returned (.int .i64 (D.append name data).2) ∧ DkPost b L (D.append name data).1 w w' := by
  have hsame : ∀ w', DiskAt w' b D.alive L → Touch (· = b) w w' → DkPost b L D.alive w w' := fun w' h1 h2 =>
    ⟨L, h1, h2.mono (fun i _ hi => by simp [foot, hi]), fun k hk => Or.inl hk⟩
  cases hd : D.alive.dead with
  | true =>
    have e : D.append name data = (D.alive, 10) := by unfold Dk.append; rw [if_pos hd]
    rw [e]
    exact (append_dead b D L name data w h hd).mono fun e w' ⟨h1, h2, h3⟩ => ⟨h1, hsame w' h2 h3⟩
  | false =>
    cases hn : dkName name with
    | false =>
      have e : D.append name data = (D.alive, 11) := by unfold Dk.append; rw [if_neg (by rw [hd]; simp), if_pos hn]
      rw [e]
      exact (append_name b D L name data w h hd hs hn).mono fun e w' ⟨h1, h2, h3⟩ => ⟨h1, hsame w' h2 h3⟩
    | true =>
      by_cases hsp : D.room - D.used < data.size
      · exact append_have b D L name data w h hd hs hn hds hf (Or.inr hsp)
      · cases hg : kvGet D.folder name with
        | some i => exact append_have b D L name data w h hd hs hn hds hf (Or.inl (by rw [hg]; rfl))
        | none => exact append_new b D L name data w h hd hs hn hds hf hst0 hg hsp
end Go.Proofs.YtpeepdkeicgkiaaGreatDoor
