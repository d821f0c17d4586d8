/- The log's Add where no bytes stand behind the last record. -/
import Derived.Test.YtjdkhainlcalbaaWc
namespace Go.Proofs.Ytjdkhainlcalbaa
open Go.RowKit Go.Maps

/-- the log and its disk, apart -/
structure Both (w : World) (b : Nat) (D : Dk) (L : Lay) (lb : Nat) (v : Value) (recs : List ByteArray) (torn : Bool) : Prop where
  dk : DiskAt w b D L
  lg : LgAt w lb b v recs torn
  sep : ∀ k ∈ lgFoot lb v, k ∉ foot b L
def bothFoot (b : Nat) (L : Lay) (lb : Nat) (v : Value) (k : Nat) : Prop := k ∈ foot b L ∨ k ∈ lgFoot lb v
def WlPost (b : Nat) (L : Lay) (lb : Nat) (v : Value) (D' : Dk) (recs' : List ByteArray) (torn' : Bool) (w w' : World) : Prop :=
  ∃ L' v', Both w' b D' L' lb v' recs' torn' ∧ Touch (bothFoot b L lb v) w w' ∧ ∀ k, bothFoot b L' lb v' k → bothFoot b L lb v k ∨ w.heap.size ≤ k

theorem Both.below {w w' : World} {b : Nat} {D : Dk} {L : Lay} {lb : Nat} {v : Value} {recs : List ByteArray} {torn : Bool} (h : Both w b D L lb v recs torn) (ht : Below w.heap.size w w') : Both w' b D L lb v recs torn :=
  ⟨h.dk.below ht, h.lg.below ht, h.sep⟩
/-- the disk has turned alone -/
theorem Both.dkPost {w w' : World} {b : Nat} {D D' : Dk} {L : Lay} {lb : Nat} {v : Value} {recs : List ByteArray} {torn : Bool} (h : Both w b D L lb v recs torn) (hp : DkPost b L D' w w') : WlPost b L lb v D' recs torn w w' := by
  obtain ⟨L', h1, h2, h3⟩ := hp
  refine ⟨L', v, ⟨h1, h.lg.keep h2 h.sep, fun k hk hf => ?_⟩, h2.mono (fun i _ hi => Or.inl hi), fun k hk => ?_⟩
  · rcases h3 k hf with h4 | h4
    · exact h.sep k hk h4
    · have := h.lg.flt k hk; omega
  · rcases hk with hk | hk
    · exact (h3 k hk).imp Or.inl id
    · exact Or.inl (Or.inr hk)
theorem WlPost.trans {b : Nat} {L L1 : Lay} {lb : Nat} {v v1 : Value} {D2 : Dk} {recs2 : List ByteArray} {torn2 : Bool} {w w1 w2 : World} (ht : Touch (bothFoot b L lb v) w w1) (hf : ∀ k, bothFoot b L1 lb v1 k → bothFoot b L lb v k ∨ w.heap.size ≤ k) (h : WlPost b L1 lb v1 D2 recs2 torn2 w1 w2) : WlPost b L lb v D2 recs2 torn2 w w2 := by
  obtain ⟨L2, v2, h1, h2, h3⟩ := h
  refine ⟨L2, v2, h1, ht.trans h2 (fun i hi hm => (hf i hm).resolve_right (by omega)), fun k hk => ?_⟩
  rcases h3 k hk with h | h
  · exact hf k h
  · exact Or.inr (Nat.le_trans ht.size h)

def lgAdd (D : Dk) (s : ByteArray) : Dk × Int := thenOk (D.append logName (frame s)) fun D => D.sync logName

/-- what an add leaves -/
def AddPost (b : Nat) (D : Dk) (L : Lay) (lb : Nat) (v : Value) (recs : List ByteArray) (s : ByteArray) (w w' : World) : Prop := WlPost b L lb v (lgAdd D s).1 (if (lgAdd D s).2 = 0 then recs ++ [s] else recs) false w w'
theorem add_big (lb b : Nat) (v : Value) (recs : List ByteArray) (torn : Bool) (s : ByteArray) (w : World) (h : LgAt w lb b v recs torn) (hn : recs.length ≤ 1048576) (hs : s.size ≤ 1099511627776) (hbig : 5000 < s.size ∨ 200 ≤ recs.length) :
    Calls Try.prog 45 #[.pointer (some ⟨lb, 0, none⟩), .string s] w fun e w' => e = .returned (.int .i64 2) ∧ w = w' := by
  have c1 : w.cell? ⟨lb, 1, none⟩ = some v := h.blk.cell 1
  obtain ⟨ad, cp, rfl⟩ : ∃ ad cp, v = .slice ad recs.length cp := by
    rcases h.row.2 with ⟨h1, h2⟩ | ⟨g, cap, _, hv, _⟩
    · exact ⟨none, 0, by rw [h1, show recs.length = 0 from h2]⟩
    · exact ⟨_, _, hv⟩
  clear h
  by_cases h5 : 5000 < s.size
  · go_enter Try.func45, Try.ntmps45
    go_wp2
    go_ret
    exact ⟨rfl, rfl⟩
  · have h2 := hbig.resolve_left h5
    generalize recs.length = n at *
    clear hbig
    go_enter Try.func45, Try.ntmps45
    go_wp2
    go_ret
    exact ⟨rfl, rfl⟩

theorem Both.post {w w' : World} {b : Nat} {D D' : Dk} {L : Lay} {lb : Nat} {v : Value} {recs : List ByteArray} {torn : Bool} (h : Both w b D L lb v recs torn) (hp : DkPost b L D' w w') :
    ∃ L', Both w' b D' L' lb v recs torn ∧ Touch (bothFoot b L lb v) w w' ∧ ∀ k, bothFoot b L' lb v k → bothFoot b L lb v k ∨ w.heap.size ≤ k := by
  obtain ⟨L', h1, h2, h3⟩ := hp
  refine ⟨L', ⟨h1, h.lg.keep h2 h.sep, fun k hk hf => ?_⟩, h2.mono (fun i _ hi => Or.inl hi), fun k hk => ?_⟩
  · rcases h3 k hf with h4 | h4
    · exact h.sep k hk h4
    · have := h.lg.flt k hk; omega
  · rcases hk with hk | hk
    · exact (h3 k hk).imp Or.inl id
    · exact Or.inl (Or.inr hk)

/-- The records' slice is appended to and stored. -/
theorem log_fin {b : Nat} {D : Dk} {L : Lay} {lb : Nat} {v : Value} {recs : List ByteArray} {torn : Bool} {w w6 : World} (h : Both w b D L lb v recs torn) {g cap n : Nat} {recs' : List ByteArray} (hn : recs'.length = n)
    (hst : w6.ownsRow 0 9 1 (.slice (some ⟨g, 0, none⟩) n cap) n (recs'.map .string)) (hgr : w.grownBy w6 v.ownBlock) (hloc : v.ownBlock = some g ∨ w.heap.size ≤ g) :
    WlPost b L lb v D recs' torn w (w6.setCell ⟨lb, 1, none⟩ (.slice (some ⟨g, 0, none⟩) n cap)) := by
  subst hn
  have hlb := h.lg.blk.lt
  have hne := h.lg.ne
  have hz := hgr.size
  have hglb : g ≠ lb := by
    rcases hloc with e | e
    · exact fun x => hne (x ▸ e)
    · omega
  have t7 := Touch.setc w6 lb 1 (.slice (some ⟨g, 0, none⟩) recs'.length cap)
  have hTT : Touch (fun k => k ∈ lgFoot lb v) w (w6.setCell ⟨lb, 1, none⟩ (.slice (some ⟨g, 0, none⟩) recs'.length cap)) :=
    ((Touch.of_grown hgr).mono (G := fun k => k ∈ lgFoot lb v) (fun k _ hk => by simp [lgFoot, hk])).trans t7 (fun k _ hk => by simp [lgFoot, hk])
  refine ⟨L, .slice (some ⟨g, 0, none⟩) recs'.length cap, ⟨h.dk.keep hTT (fun k hk hl => h.sep k hl hk), ⟨?_, ?_⟩, ?_⟩, hTT.mono (fun i _ hi => Or.inr hi), ?_⟩
  · have h5 : BlockIs w6 lb #[ptrV b, v, .bool torn] 140 := h.lg.blk.keep (hgr.block _ hlb (fun e => hne e.symm))
    exact h5.set 1 _
  · refine ownsRow_keep hst fun k hk => ?_
    obtain rfl : g = k := Option.some.inj hk
    exact t7.block g (ownsRow_lt hst (k := g) rfl).2 hglb
  · intro k hk hf
    simp only [lgFoot, List.mem_cons, Option.mem_toList, Value.ownBlock] at hk
    rcases hk with rfl | hk
    · exact h.sep _ (by simp [lgFoot]) hf
    · obtain rfl := Option.some.inj hk
      rcases hloc with e | e
      · exact h.sep _ (by simp [lgFoot, e]) hf
      · have := h.dk.flt _ hf; omega
  · intro k hk
    rcases hk with hk | hk
    · exact Or.inl (Or.inl hk)
    · simp only [lgFoot, List.mem_cons, Option.mem_toList, Value.ownBlock] at hk
      rcases hk with rfl | hk
      · exact Or.inl (Or.inr (by simp [lgFoot]))
      · obtain rfl := Option.some.inj hk
        rcases hloc with e | e
        · exact Or.inl (Or.inr (by simp [lgFoot, e]))
        · exact Or.inr e

set_option maxHeartbeats 1600000 in
set_option maxRecDepth 100000 in
theorem add_any (b : Nat) (D : Dk) (L : Lay) (lb : Nat) (v : Value) (recs : List ByteArray) (s : ByteArray) (w : World) (h : Both w b D L lb v recs false) (hs : s.size ≤ 5000) (hn : recs.length < 200) (hsm : D.small 1000000) :
    Calls Try.prog 45 #[.pointer (some ⟨lb, 0, none⟩), .string s] w fun e w' => e = .returned (.int .i64 (lgAdd D s).2) ∧ AddPost b D L lb v recs s w w' := by
  have c0 : w.cell? ⟨lb, 0, none⟩ = some (.pointer (some ⟨b, 0, none⟩)) := h.lg.blk.cell 0
  have c1 : w.cell? ⟨lb, 1, none⟩ = some v := h.lg.blk.cell 1
  have c2 : w.cell? ⟨lb, 2, none⟩ = some (.bool false) := h.lg.blk.cell 2
  obtain ⟨ad, cp, rfl⟩ : ∃ ad cp, v = .slice ad recs.length cp := by
    rcases h.lg.row.2 with ⟨h1, h2⟩ | ⟨g, cap, _, hv, _⟩
    · exact ⟨none, 0, by rw [h1, show recs.length = 0 from h2]⟩
    · exact ⟨_, _, hv⟩
  have HF := Lib.hid (fun w => frame_any s w (by omega))
  have hfs := frame_size s
  have HA := Lib.hid (fun (w3 : World) (hb3 : Below w.heap.size w w3) => (append_any b D L logName (frame s) w3 (h.dk.below hb3) (by decide) (by omega) (by have := hsm.1; omega) (by have := hsm.2; omega)).mono (fun e w' he => (⟨he.1, DkPost.trans (Touch.of_below _ hb3) (fun k hk => Or.inl hk) he.2⟩ : e = .returned (.int .i64 (D.append logName (frame s)).2) ∧ DkPost b L (D.append logName (frame s)).1 w w')))
  have HC0 := Lib.hid (fun (w3 : World) (hb3 : Below w.heap.size w w3) => (h.lg.below hb3).blk.cell 0)
  have H := Lib.hid h
  have hsp : lgAdd D s = thenOk (D.append logName (frame s)) fun D => D.sync logName := rfl
  have HSP := Lib.hid hsp
  have HSM := Lib.hid hsm
  clear h hsp hfs hsm
  generalize frame s = fr at *
  generalize D.append logName fr = r1 at *
  obtain ⟨D1, e1⟩ := r1
  go_enter Try.func45, Try.ntmps45
  go_upto_region 9 with fail
  go_cut [6] (fun s6 wc => s6 = .int .i64 e1 ∧ DkPost b L D1 w wc)
  case first =>
    go_region_with (first
      | (go_at_call 48; refine (HF.out _).mono ?_; rintro e w3 ⟨rfl, hb3⟩; have c0' : w3.cell? ⟨lb, 0, none⟩ = some (.pointer (some ⟨b, 0, none⟩)) := HC0.out _ ⟨hb3.os, hb3.tape, hb3.output, hb3.size, hb3.block⟩)
      | (go_at_call 26; refine (HA.out _ ⟨hb3.os, hb3.tape, hb3.output, hb3.size, hb3.block⟩).mono ?_; rintro e w4 ⟨rfl, hp4⟩))
    all_goals (go_wp2_with fail; go_meet; exact ⟨rfl, hp4⟩)
  case rest =>
    obtain ⟨rfl, hp⟩ := hcut
    have S2 := Lib.hid (HSM.out)
    obtain ⟨L1, hb1, ht1, hf1⟩ := H.out.post hp
    have P1 := Lib.hid (fun D2 r2 t2 w2 (h : WlPost b L1 lb (.slice ad recs.length cp) D2 r2 t2 wc w2) => WlPost.trans ht1 hf1 h)
    have H1 := Lib.hid hb1
    have c0c : wc.cell? ⟨lb, 0, none⟩ = some (.pointer (some ⟨b, 0, none⟩)) := hb1.lg.blk.cell 0
    clear hp hb1 ht1 hf1
    by_cases n1 : e1 = 0
    rotate_left 1
    · have q1 : (e1 != 0) = true := by simpa using n1
      have hs2 := HSP.out.trans (thenOk_no (show (D1, e1).2 ≠ 0 from n1))
      have hfin : AddPost b D L lb (.slice ad recs.length cp) recs s w wc := by
        unfold AddPost; rw [hs2, if_neg (show (D1, e1).2 ≠ 0 from n1)]
        exact P1.out _ _ _ _ ⟨L1, _, H1.out, Touch.refl _ _, fun k hk => Or.inl hk⟩
      have HFi := Lib.hid hfin
      have HS2 := Lib.hid hs2
      clear hs2 n1 hfin
      go_wp2
      go_ret
      rw [HS2.out]
      exact ⟨rfl, HFi.out⟩
    · subst n1
      have hs2 := HSP.out.trans (thenOk_ok rfl)
      dsimp only at hs2
      have hcall := sync_any b D1 L1 logName wc H1.out.dk (by decide)
      generalize D1.sync logName = r2 at *
      obtain ⟨D2, e2⟩ := r2
      have HC2 := Lib.hid hcall
      have HS2 := Lib.hid hs2
      clear hcall hs2
      go_wp2_with fail
      refine HC2.out.mono ?_
      rintro e w5 ⟨rfl, hp⟩
      obtain ⟨L2, hb2, ht2, hf2⟩ := H1.out.post hp
      have P2 := Lib.hid (fun D3 r3 t3 w3 (h : WlPost b L2 lb (.slice ad recs.length cp) D3 r3 t3 w5 w3) => P1.out _ _ _ _ (WlPost.trans ht2 hf2 h))
      have H2 := Lib.hid hb2
      have c15 : w5.cell? ⟨lb, 1, none⟩ = some (.slice ad recs.length cp) := hb2.lg.blk.cell 1
      have hrow5 := hb2.lg.row
      clear hp hb2 ht2 hf2
      by_cases n2 : e2 = 0
      rotate_left 1
      · have q2 : (e2 != 0) = true := by simpa using n2
        have hfin : AddPost b D L lb (.slice ad recs.length cp) recs s w w5 := by
          unfold AddPost; rw [HS2.out, if_neg (show (D2, e2).2 ≠ 0 from n2)]
          exact P2.out _ _ _ _ ⟨L2, _, H2.out, Touch.refl _ _, fun k hk => Or.inl hk⟩
        have HFi := Lib.hid hfin
        clear n2 hfin
        go_wp2
        go_ret
        rw [HS2.out]
        exact ⟨rfl, HFi.out⟩
      · subst n2
        go_wp2_with (first
         | (at_builtin; refine wpList_app1 rfl _ _ 25 rfl 0 9 Try.underlying25 infoStr rfl (by decide) _ _ _ rfl hrow5 _ rfl rfl (oneCell_string _) ?_ ?_ (Nat.zero_le _) ?_; omega; omega; intro g6 cap6 w6 hst6 hgr6 _ hloc6;
              have c16 : w6.cell? ⟨lb, 1, none⟩ = some (.slice ad recs.length cp) := (World.cell?_of_block (w := w5) (hgr6.block lb H2.out.lg.blk.lt (fun e => H2.out.lg.ne e.symm))).trans c15;
              have f16 : w6.frozen? ⟨lb, 1, none⟩ = false := (World.frozen?_of_block (w := w5) (hgr6.block lb H2.out.lg.blk.lt (fun e => H2.out.lg.ne e.symm))).trans (H2.out.lg.blk.free 1)))
        go_ret
        have hfin : AddPost b D L lb (.slice ad recs.length cp) recs s w (w6.setCell ⟨lb, 1, none⟩ (.slice (some ⟨g6, 0, none⟩) (recs.length + 1) cap6)) := by
          unfold AddPost; rw [HS2.out, if_pos rfl]
          exact P2.out _ _ _ _ (log_fin H2.out (recs' := recs ++ [s]) (by simp) (by rw [List.map_append]; exact hst6) hgr6 (hloc6.imp id (fun e => by omega)))
        rw [HS2.out]
        exact ⟨rfl, hfin⟩
end Go.Proofs.Ytjdkhainlcalbaa
