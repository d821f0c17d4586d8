/- The disk's Remove and Rename. -/
import Derived.Test.YtjdkhainlcalbaaDc
namespace Go.Proofs.Ytjdkhainlcalbaa
open Go.RowKit Go.Maps

def Dk.remove (D : Dk) (name : ByteArray) : Dk × Int :=
  if D.alive.dead = true then (D.alive, 10) else
  match kvGet D.folder name with
  | some i => ({ D.alive with folder := kvDel D.folder name, steps := D.steps ++ [⟨3, name, name, i⟩] }, 0)
  | none => (D.alive, 7)
def Dk.rename (D : Dk) (src dst : ByteArray) : Dk × Int :=
  if D.alive.dead = true then (D.alive, 10) else
  match kvGet D.folder src with
  | some i => if dkName dst = false then (D.alive, 11) else ({ D.alive with folder := kvPut (kvDel D.folder src) dst i, steps := D.steps ++ [⟨2, src, dst, i⟩] }, 0)
  | none => (D.alive, 7)

/-- The folder is another one, and there is a step more. -/
theorem DiskAt.stepped {w w' : World} {b : Nat} {D : Dk} {L : Lay} (h : DiskAt w b D L) {g cap : Nat} (folder : List (ByteArray × Nat)) (s : Sp) (hs : s.id < D.files.length ∧ s.src.size ≤ 80 ∧ s.dst.size ≤ 80)
    (hf : (∀ p ∈ folder, p.2 < D.files.length) ∧ kvApart folder ∧ folder.length ≤ D.folder.length ∧ ∀ p ∈ folder, p.1.size ≤ 80) (hg5 : L.v.ownBlock = some g ∨ w.heap.size ≤ g)
    (hblk : BlockIs w' b (dkCells D.room L.bm L.sm (.slice (some ⟨g, 0, none⟩) (D.steps.length + 1) cap) D.arm D.dead) 114)
    (hmp : ownsKV w' Try.prog 9 L.bm (kvMap (fileV L.bs) folder))
    (hst : w'.ownsRow 0 120 4 (.slice (some ⟨g, 0, none⟩) (D.steps.length + 1) cap) (D.steps.length + 1) (D.steps.flatMap (stepCells L.bs) ++ stepCells L.bs s))
    (hrest : ∀ k ∈ L.sm :: L.bs, w'.heap[k]? = w.heap[k]?) :
    DiskAt w' b { D with folder := folder, steps := D.steps ++ [s] } ⟨L.bm, L.sm, .slice (some ⟨g, 0, none⟩) (D.steps.length + 1) cap, L.bs⟩ := by
  have hlt := h.flt
  have hid : ∀ i, i < D.files.length → i < L.bs.length := fun i hi => by rw [h.len]; exact hi
  exact
  { blk := hblk
    mp := hmp
    sf := ownsKV_block h.sf (hrest _ (by simp))
    st := by
      have e : (D.steps ++ [s]).flatMap (stepCells L.bs) = D.steps.flatMap (stepCells L.bs) ++ stepCells L.bs s := by
        rw [List.flatMap_append]; simp
      simp only [List.length_append, List.length_cons, List.length_nil]
      rw [e]; exact hst
    len := h.len
    fs := fun i hi => (h.fs i hi).keep (hrest _ (List.mem_cons_of_mem _ (getD_mem (hid i hi))))
    nd := by
      have hnd := h.nd
      have hb := hlt b (by simp [foot])
      have hbm := hlt L.bm (by simp [foot])
      have hsm := hlt L.sm (by simp [foot])
      have hbs : ∀ k ∈ L.bs, k < w.heap.size := fun k hk => hlt k (by simp [foot, hk])
      simp only [foot, List.nodup_cons, List.nodup_append, List.mem_cons, List.mem_append, Option.mem_toList, not_or] at hnd
      have hgg : g ≠ b ∧ g ≠ L.bm ∧ g ≠ L.sm ∧ ∀ k ∈ L.bs, g ≠ k := by
        rcases hg5 with e | e1
        · exact ⟨fun x => hnd.1.2.2.1 (x ▸ e), fun x => hnd.2.1.2.1 (x ▸ e), fun x => hnd.2.2.1.1 (x ▸ e), fun k hk => hnd.2.2.2.2.2 g e k hk⟩
        · exact ⟨by omega, by omega, by omega, fun k hk => by have := hbs k hk; omega⟩
      simp only [foot, Value.ownBlock, Option.toList, List.singleton_append, List.nodup_cons, List.mem_cons, not_or]
      exact ⟨⟨hnd.1.1, hnd.1.2.1, fun x => hgg.1 x.symm, hnd.1.2.2.2⟩, ⟨hnd.2.1.1, fun x => hgg.2.1 x.symm, hnd.2.1.2.2⟩, ⟨fun x => hgg.2.2.1 x.symm, hnd.2.2.1.2⟩, fun x => hgg.2.2.2 _ x rfl, hnd.2.2.2.2.1⟩
    ok :=
      { fol := hf.1
        sur := h.ok.sur
        stp := fun t ht => by
          rcases List.mem_append.1 ht with ht | ht
          · exact h.ok.stp t ht
          · simp at ht; subst ht; exact hs
        fap := hf.2.1
        sap := h.ok.sap
        fln := Nat.le_trans hf.2.2.1 h.ok.fln
        sln := h.ok.sln
        dat := h.ok.dat
        arm := h.ok.arm
        rm := h.ok.rm
        nam := hf.2.2.2
        snm := h.ok.snm } }

/-- What is left to say behind a step: worlds w4 (the map is written), w5 (the steps are appended to), w6 (the slice is stored). -/
theorem step_fin {b : Nat} {D : Dk} {L : Lay} {w wc w4 w5 : World} (H3 : DiskAt wc b D L) (HT : Touch (· ∈ foot b L) w wc) (hT4 : Touch (· = L.bm) wc w4) {g5 cap5 : Nat}
    (folder : List (ByteArray × Nat)) (s : Sp) (hs : s.id < D.files.length ∧ s.src.size ≤ 80 ∧ s.dst.size ≤ 80)
    (hf : (∀ p ∈ folder, p.2 < D.files.length) ∧ kvApart folder ∧ folder.length ≤ D.folder.length ∧ ∀ p ∈ folder, p.1.size ≤ 80)
    (hmp4 : ownsKV w4 Try.prog 9 L.bm (kvMap (fileV L.bs) folder))
    (hst5 : w5.ownsRow 0 120 4 (.slice (some ⟨g5, 0, none⟩) (D.steps.length + 1) cap5) (D.steps.length + 1) (D.steps.flatMap (stepCells L.bs) ++ stepCells L.bs s))
    (hgr5 : w4.grownBy w5 L.v.ownBlock) (hloc5 : L.v.ownBlock = some g5 ∨ g5 = w4.heap.size + 1) :
    DkPost b L { D with folder := folder, steps := D.steps ++ [s] } w (w5.setCell ⟨b, 3, none⟩ (.slice (some ⟨g5, 0, none⟩) (D.steps.length + 1) cap5)) := by
  have hlt := H3.flt
  have hnd := H3.nd
  simp only [foot, List.nodup_cons, List.nodup_append, List.mem_cons, List.mem_append, Option.mem_toList, not_or] at hnd
  have hbl := hlt b (by simp [foot])
  have hbm := hlt L.bm (by simp [foot])
  have hn4 := hT4.size
  have hn5 := hgr5.size
  have hg5 : L.v.ownBlock = some g5 ∨ wc.heap.size ≤ g5 := hloc5.imp id fun e => by omega
  have hgb : g5 ≠ b := by
    rcases hg5 with e | e
    · exact fun x => hnd.1.2.2.1 (x ▸ e)
    · omega
  have t6 := Touch.setc w5 b 3 (.slice (some ⟨g5, 0, none⟩) (D.steps.length + 1) cap5)
  have hb5 : BlockIs w5 b (dkCells D.room L.bm L.sm L.v D.arm D.dead) 114 := H3.blk.keep (by
    rw [hgr5.block b (by omega) (fun e => hnd.1.2.2.1 e.symm), hT4.block b hbl (fun e => hnd.1.1 e)])
  have hold : ∀ k, k < wc.heap.size → k ≠ b → k ≠ L.bm → L.v.ownBlock ≠ some k → (w5.setCell ⟨b, 3, none⟩ (.slice (some ⟨g5, 0, none⟩) (D.steps.length + 1) cap5)).heap[k]? = wc.heap[k]? := by
    intro k h1 h2 h3 h4
    rw [t6.block k (by omega) h2, hgr5.block k (by omega) (fun e => h4 e.symm), hT4.block k h1 h3]
  refine ⟨_, H3.stepped (g := g5) (cap := cap5) folder s hs hf hg5 ?_ ?_ ?_ ?_, ?_, ?_⟩
  · exact hb5.set 3 (.slice (some ⟨g5, 0, none⟩) (D.steps.length + 1) cap5)
  · exact ownsKV_block hmp4 (by rw [t6.block L.bm (by omega) (fun e => hnd.1.1 e.symm), hgr5.block L.bm (by omega) (fun e => hnd.2.1.2.1 e.symm)])
  · refine ownsRow_keep hst5 fun k hk => ?_
    obtain rfl : g5 = k := Option.some.inj hk
    exact t6.block g5 (ownsRow_lt hst5 (k := g5) rfl).2 hgb
  · intro k hk
    have hkl := hlt k (by simp only [foot, List.mem_cons, List.mem_append] at hk ⊢; rcases hk with hk | hk <;> simp [hk])
    rcases List.mem_cons.1 hk with rfl | hk
    · exact hold _ hkl (fun e => hnd.1.2.1 e.symm) (fun e => hnd.2.1.1 e.symm) (fun e => hnd.2.2.1.1 e)
    · exact hold _ hkl (fun e => hnd.1.2.2.2 (e ▸ hk)) (fun e => hnd.2.1.2.2 (e ▸ hk)) (fun e => hnd.2.2.2.2.2 k e k hk rfl)
  · exact ((HT.trans hT4 (fun i _ hi => by simp [foot, hi])).trans (Touch.of_grown hgr5) (fun i _ hi => own_foot hi)).trans t6 (fun i _ hi => by simp [foot, hi])
  · intro k hk
    have hw := HT.size
    have hk : k = b ∨ k = L.bm ∨ k = L.sm ∨ some g5 = some k ∨ k ∈ L.bs := by
      simpa only [foot, List.mem_cons, List.mem_append, Value.ownBlock, Option.mem_toList] using hk
    rcases hk with rfl | rfl | rfl | hk | hk
    · exact Or.inl (by simp [foot])
    · exact Or.inl (by simp [foot])
    · exact Or.inl (by simp [foot])
    · obtain rfl := Option.some.inj hk
      rcases hg5 with e | e
      · exact Or.inl (own_foot e)
      · exact Or.inr (by omega)
    · exact Or.inl (by simp [foot, hk])

theorem dk_facts {w : World} {b : Nat} {D : Dk} {L : Lay} (h : DiskAt w b D L) : L.bm ≠ b ∧ ∀ k, L.v.ownBlock = some k → k ≠ b ∧ k ≠ L.bm := by
  have hnd := h.nd
  simp only [foot, List.nodup_cons, List.nodup_append, List.mem_cons, List.mem_append, Option.mem_toList, not_or] at hnd
  exact ⟨fun e => hnd.1.1 e.symm, fun k hk => ⟨fun e => hnd.1.2.2.1 (e ▸ hk), fun e => hnd.2.1.2.1 (e ▸ hk)⟩⟩
/-- behind a write of the folder's map: the disk's cells and its steps -/
theorem turned_facts {w w4 : World} {b : Nat} {D : Dk} {L : Lay} (h : DiskAt w b D L) (ht : Touch (· = L.bm) w w4) :
    BlockIs w4 b (dkCells D.room L.bm L.sm L.v D.arm D.dead) 114 ∧ w4.ownsRow 0 120 4 L.v D.steps.length (D.steps.flatMap (stepCells L.bs)) :=
  ⟨h.blk.keep (ht.block _ h.blk.lt (fun e => (dk_facts h).1 e.symm)), ownsRow_keep h.st fun k hv => ht.block k (ownsRow_lt h.st hv).2 ((dk_facts h).2 k hv).2⟩

set_option maxRecDepth 100000 in
set_option maxHeartbeats 800000 in
theorem remove_any (b : Nat) (D : Dk) (L : Lay) (name : ByteArray) (w : World) (h : DiskAt w b D L) (hs : name.size ≤ 9223372036854775807) (hst0 : D.steps.length ≤ 1048576) :
    Calls Try.prog 28 #[.pointer (some ⟨b, 0, none⟩), .string name] w fun e w' => e = .returned (.int .i64 (D.remove name).2) ∧ DkPost b L (D.remove name).1 w w' := by
  have hsz := ba_len hs
  have hz0 := fun w => zero_ptr w
  have hnm := fun i (hg : kvGet D.folder name = some i) => h.ok.nam _ (kvGet_mem hg)
  have hc := alive_at b D L w h
  clear h
  cases hd : D.alive.dead with
  | true =>
    rw [hd] at hc
    have Hc := Lib.hid hc
    have e : D.remove name = (D.alive, 10) := by unfold Dk.remove; rw [if_pos hd]
    rw [e]
    clear e hd hc hnm
    go_enter Try.func28, Try.ntmps28
    go_wp2_with (go_at_call 61; refine Hc.out.mono ?_; rintro e w' ⟨rfl, h1, ht⟩)
    go_ret
    exact ⟨rfl, dkSame h1 ht⟩
  | false =>
    rw [hd] at hc
    have Hc := Lib.hid hc
    cases hg : kvGet D.folder name with
    | none =>
      have hget := kvGet_none (L := L) hg
      have e : D.remove name = (D.alive, 7) := by unfold Dk.remove; rw [if_neg (by rw [hd]; simp), hg]
      rw [e]
      clear e hd hg hc hnm
      go_enter Try.func28, Try.ntmps28
      go_wp2_with (first
        | (go_at_call 61; refine Hc.out.mono ?_; rintro e w' ⟨rfl, h1, ht⟩;
            have c1 : w'.cell? ⟨b, 1, none⟩ = some (.map (some L.bm)) := h1.blk.cell 1; have hmp := h1.mp)
        | (at_lookup; refine wpList_kvNone rfl _ _ 111 rfl Try.underlying9 Try.underlying111 (hz0 _) rfl hmp rfl hsz hget ?_)
        | go_in)
      go_ret
      exact ⟨rfl, dkSame h1 ht⟩
    | some i =>
      have e : D.remove name = ({ D.alive with folder := kvDel D.alive.folder name, steps := D.alive.steps ++ [⟨3, name, name, i⟩] }, 0) := by unfold Dk.remove; rw [if_neg (by rw [hd]; simp), hg]; rfl
      rw [e]
      have hn80 : name.size ≤ 80 := hnm i hg
      have HG := Lib.hid hg
      have hsl : D.alive.steps.length + 1 ≤ 1048577 := Nat.succ_le_succ hst0
      clear e hd hc hg hnm
      go_enter Try.func28, Try.ntmps28
      go_wp2_with fail
      refine Hc.out.mono ?_
      rintro e w' ⟨rfl, h1, ht⟩
      have c1 : w'.cell? ⟨b, 1, none⟩ = some (.map (some L.bm)) := h1.blk.cell 1
      have hmp := h1.mp
      obtain ⟨hi, hget⟩ := kvGet_found h1 (show kvGet D.alive.folder name = some i from HG.out)
      have H1 := Lib.hid h1
      have HT := Lib.hid ht
      have HF : Hid (∃ v, v = fileV L.bs i) := ⟨_, rfl⟩
      clear h1 ht
      unfold fileV ptrV at hget
      go_wp2_with (first
          | (at_lookup; refine wpList_kvFound rfl _ _ 111 rfl Try.underlying9 Try.underlying111 (hz0 _) rfl hmp rfl hsz hget ?_)
          | (at_delete; refine wpList_kvDelete rfl _ _ 111 9 rfl Try.underlying9 Try.underlying111 rfl hmp rfl hsz ?_; intro w4 hmp4 htu4;
              have hT4 := Lib.hid (Touch.of_turned htu4); have hf4 := turned_facts H1.out hT4.out; have c34 : w4.cell? ⟨b, 3, none⟩ = some L.v := hf4.1.cell 3; have hb4 := Lib.hid hf4.1; have hst4 := hf4.2; clear hf4 htu4)
          | (at_builtin; refine wpList_app1 rfl _ _ 112 rfl 0 120 Try.underlying112 infoStep rfl (by decide) _ _ _ rfl hst4 _ rfl rfl (by simp [Value.oneCell']) ?_ ?_ (Nat.zero_le _) ?_; omega; omega; intro g5 cap5 w5 hst5 hgr5 _ hloc5;
              have hb5 : BlockIs w5 b (dkCells D.alive.room L.bm L.sm L.v D.alive.arm D.alive.dead) 114 := hb4.out.keep (hgr5.block _ hb4.out.lt (fun e => ((dk_facts H1.out).2 b e.symm).1 rfl));
              have c35 : w5.cell? ⟨b, 3, none⟩ = some L.v := hb5.cell 3;
              have f35 : w5.frozen? ⟨b, 3, none⟩ = false := hb5.free 3)
          | go_in)
      go_ret
      rw [kvDel_map] at hmp4
      exact ⟨rfl, step_fin H1.out ((HT.out.mono (fun k _ hk => by simp [foot, hk]))) hT4.out (kvDel D.alive.folder name) ⟨3, name, name, i⟩ ⟨hi, hn80, hn80⟩
        ⟨fun p hp => H1.out.ok.fol p (kvDel_mem hp), kvApart_del _ H1.out.ok.fap, kvDel_len _ _, fun p hp => H1.out.ok.nam p (kvDel_mem hp)⟩ hmp4 hst5 hgr5 hloc5⟩

set_option maxRecDepth 100000 in
set_option maxHeartbeats 800000 in
theorem rename_any (b : Nat) (D : Dk) (L : Lay) (name dst : ByteArray) (w : World) (h : DiskAt w b D L) (hs : name.size ≤ 9223372036854775807) (hds : dst.size ≤ 9223372036854775807) (hst0 : D.steps.length ≤ 1048576) (hf0 : D.files.length ≤ 1048576) :
    Calls Try.prog 31 #[.pointer (some ⟨b, 0, none⟩), .string name, .string dst] w fun e w' => e = .returned (.int .i64 (D.rename name dst).2) ∧ DkPost b L (D.rename name dst).1 w w' := by
  have hsz := ba_len hs
  have hsz2 := ba_len hds
  have hz0 := fun w => zero_ptr w
  have hnm := fun i (hg : kvGet D.folder name = some i) => h.ok.nam _ (kvGet_mem hg)
  have hc := alive_at b D L w h
  have hfl := Nat.le_trans h.ok.fln hf0
  clear h
  cases hd : D.alive.dead with
  | true =>
    rw [hd] at hc
    have Hc := Lib.hid hc
    have e : D.rename name dst = (D.alive, 10) := by unfold Dk.rename; rw [if_pos hd]
    rw [e]
    clear e hd hc hnm
    go_enter Try.func31, Try.ntmps31
    go_wp2_with (go_at_call 61; refine Hc.out.mono ?_; rintro e w' ⟨rfl, h1, ht⟩)
    go_ret
    exact ⟨rfl, dkSame h1 ht⟩
  | false =>
    rw [hd] at hc
    have Hc := Lib.hid hc
    cases hg : kvGet D.folder name with
    | none =>
      have hget := kvGet_none (L := L) hg
      have e : D.rename name dst = (D.alive, 7) := by unfold Dk.rename; rw [if_neg (by rw [hd]; simp), hg]
      rw [e]
      clear e hd hg hc hnm
      go_enter Try.func31, Try.ntmps31
      go_wp2_with (first
        | (go_at_call 61; refine Hc.out.mono ?_; rintro e w' ⟨rfl, h1, ht⟩;
            have c1 : w'.cell? ⟨b, 1, none⟩ = some (.map (some L.bm)) := h1.blk.cell 1; have hmp := h1.mp)
        | (at_lookup; refine wpList_kvNone rfl _ _ 111 rfl Try.underlying9 Try.underlying111 (hz0 _) rfl hmp rfl hsz hget ?_)
        | go_in)
      go_ret
      exact ⟨rfl, dkSame h1 ht⟩
    | some i =>
      have HG := Lib.hid hg
      have hn' := fun w => name_any dst w hds
      cases hn : dkName dst with
      | false =>
        have e : D.rename name dst = (D.alive, 11) := by unfold Dk.rename; rw [if_neg (by rw [hd]; simp), hg]; exact if_pos hn
        rw [e]
        rw [hn] at hn'
        have Hn := Lib.hid hn'
        clear e hd hc hg hnm hn hn'
        go_enter Try.func31, Try.ntmps31
        go_wp2_with fail
        refine Hc.out.mono ?_
        rintro e w' ⟨rfl, h1, ht⟩
        have c1 : w'.cell? ⟨b, 1, none⟩ = some (.map (some L.bm)) := h1.blk.cell 1
        have hmp := h1.mp
        obtain ⟨hi, hget⟩ := kvGet_found h1 (show kvGet D.alive.folder name = some i from HG.out)
        have H1 := Lib.hid h1
        have HT := Lib.hid ht
        clear h1 ht
        unfold fileV ptrV at hget
        go_wp2_with (first
          | (at_lookup; refine wpList_kvFound rfl _ _ 111 rfl Try.underlying9 Try.underlying111 (hz0 _) rfl hmp rfl hsz hget ?_)
          | (go_at_call 62; refine (Hn.out _).mono ?_; rintro e w2 ⟨rfl, hb⟩)
          | go_in)
        go_ret
        exact ⟨rfl, dkSame (H1.out.below hb) (HT.out.trans (Touch.of_below (fun _ => False) hb) (fun _ _ h => h.elim))⟩
      | true =>
        have e : D.rename name dst = ({ D.alive with folder := kvPut (kvDel D.alive.folder name) dst i, steps := D.alive.steps ++ [⟨2, name, dst, i⟩] }, 0) := by
          unfold Dk.rename; rw [if_neg (by rw [hd]; simp), hg]; exact if_neg (by rw [hn]; simp)
        rw [e]
        rw [hn] at hn'
        have Hn := Lib.hid hn'
        have hn80 : name.size ≤ 80 := hnm i hg
        have hd80 : dst.size ≤ 80 := by
          unfold dkName at hn; simp only [Bool.and_eq_true, decide_eq_true_eq] at hn; exact hn.2
        have hsl : D.alive.steps.length + 1 ≤ 1048577 := Nat.succ_le_succ hst0
        clear e hd hc hg hnm hn hn'
        go_enter Try.func31, Try.ntmps31
        go_wp2_with fail
        refine Hc.out.mono ?_
        rintro e w' ⟨rfl, h1, ht⟩
        have c1 : w'.cell? ⟨b, 1, none⟩ = some (.map (some L.bm)) := h1.blk.cell 1
        have hmp := h1.mp
        obtain ⟨hi, hget⟩ := kvGet_found h1 (show kvGet D.alive.folder name = some i from HG.out)
        have H1 := Lib.hid h1
        have HT := Lib.hid ht
        clear h1 ht
        unfold fileV ptrV at hget
        go_wp2_with (first
          | (at_lookup; refine wpList_kvFound rfl _ _ 111 rfl Try.underlying9 Try.underlying111 (hz0 _) rfl hmp rfl hsz hget ?_)
          | fail)
        refine (Hn.out _).mono ?_
        rintro e w2 ⟨rfl, hb⟩
        have h2 := H1.out.below hb
        have c12 : w2.cell? ⟨b, 1, none⟩ = some (.map (some L.bm)) := h2.blk.cell 1
        have hmp2 := h2.mp
        have htt : Touch (· ∈ foot b L) w w2 := (HT.out.mono (fun k _ hk => by simp [foot, hk])).trans (Touch.of_below (fun _ => False) hb) (fun _ _ h => h.elim)
        have H2 := Lib.hid h2
        have HTT := Lib.hid htt
        have hdl : (kvDel (kvMap (fileV L.bs) D.alive.folder) name).length < 1099511627776 := by
          have h1 := kvDel_len (kvMap (fileV L.bs) D.alive.folder) name
          have h3 : D.alive.folder.length = D.folder.length := rfl
          rw [kvMap_len, h3] at h1; omega
        clear h2 htt
        go_wp2_with (first
          | (at_delete; refine wpList_kvDelete rfl _ _ 111 9 rfl Try.underlying9 Try.underlying111 rfl hmp2 rfl hsz ?_; intro w3 hmp3 htu3;
              have hT3 := Lib.hid (Touch.of_turned htu3); have hf3 := turned_facts H2.out hT3.out; have c13 : w3.cell? ⟨b, 1, none⟩ = some (.map (some L.bm)) := hf3.1.cell 1; clear hf3 htu3)
          | (at_mapUpdate; refine wpList_kvStore rfl _ _ _ 111 rfl Try.underlying9 Try.underlying111 rfl hmp3 hdl rfl hsz2 rfl ?_; intro w4 hmp4 htu4;
              have hT4 := Lib.hid (hT3.out.trans (Touch.of_turned htu4) (fun _ _ h => h)); have hf4 := turned_facts H2.out hT4.out; have c34 : w4.cell? ⟨b, 3, none⟩ = some L.v := hf4.1.cell 3; have hb4 := Lib.hid hf4.1; have hst4 := hf4.2; clear hf4 htu4)
          | (at_builtin; refine wpList_app1 rfl _ _ 112 rfl 0 120 Try.underlying112 infoStep rfl (by decide) _ _ _ rfl hst4 _ rfl rfl (by simp [Value.oneCell']) ?_ ?_ (Nat.zero_le _) ?_; omega; omega; intro g5 cap5 w5 hst5 hgr5 _ hloc5;
              have hb5 : BlockIs w5 b (dkCells D.alive.room L.bm L.sm L.v D.alive.arm D.alive.dead) 114 := hb4.out.keep (hgr5.block _ hb4.out.lt (fun e => ((dk_facts H2.out).2 b e.symm).1 rfl));
              have c35 : w5.cell? ⟨b, 3, none⟩ = some L.v := hb5.cell 3;
              have f35 : w5.frozen? ⟨b, 3, none⟩ = false := hb5.free 3)
          | go_in)
        go_ret
        have hmp5 : ownsKV w4 Try.prog 9 L.bm (kvMap (fileV L.bs) (kvPut (kvDel D.alive.folder name) dst i)) := by
          rw [← kvPut_map, ← kvDel_map]; exact hmp4
        exact ⟨rfl, step_fin H2.out HTT.out hT4.out (kvPut (kvDel D.alive.folder name) dst i) ⟨2, name, dst, i⟩ ⟨hi, hn80, hd80⟩
          ⟨fun p hp => by
              rcases kvPut_mem hp with rfl | hp
              · exact hi
              · exact H2.out.ok.fol p (kvDel_mem hp), kvApart_put _ _ (kvApart_del _ H2.out.ok.fap), by
              have h1 := kvPut_len (kvDel D.alive.folder name) dst i
              have h3 := kvDel_len_lt (show kvGet D.alive.folder name = some i from HG.out)
              omega, fun p hp => by
              rcases kvPut_mem hp with rfl | hp
              · exact hd80
              · exact H2.out.ok.nam p (kvDel_mem hp)⟩ hmp5 hst5 hgr5 hloc5⟩
end Go.Proofs.Ytjdkhainlcalbaa
