/- The log's Add where bytes stand behind the last whole record. -/
import Derived.Test.YtjdkhainlcalbaaWk
import Derived.Deep.RegionHeld3
import Derived.Deep.AppendLies
namespace Go.Proofs.Ytjdkhainlcalbaa
open Go.RowKit Go.Maps

def AddTPost (b : Nat) (D : Dk) (L : Lay) (lb : Nat) (v : Value) (recs : List ByteArray) (s : ByteArray) (w w' : World) : Prop :=
  WlPost b L lb v (lgReplace D (recs ++ [s])).1 (if (lgReplace D (recs ++ [s])).2 = 0 then recs ++ [s] else recs) (if (lgReplace D (recs ++ [s])).2 = 0 then false else true) w w'

/-- no bytes stand behind the records any more -/
theorem torn_fin {b : Nat} {D : Dk} {L : Lay} {lb : Nat} {v : Value} {recs : List ByteArray} {torn : Bool} {w : World} (h : Both w b D L lb v recs torn) : WlPost b L lb v D recs false w (w.setCell ⟨lb, 2, none⟩ (.bool false)) := by
  have hT : Touch (fun k => k = lb) w (w.setCell ⟨lb, 2, none⟩ (.bool false)) := Touch.setc w lb 2 _
  refine ⟨L, v, ⟨h.dk.keep hT (fun k hk e => h.sep lb (by simp [lgFoot]) (e ▸ hk)), ⟨h.lg.blk.set 2 _, ownsRow_keep h.lg.row (fun k hk => hT.block k (ownsRow_lt h.lg.row hk).2 (fun e => h.lg.ne (e ▸ hk)))⟩, h.sep⟩, hT.mono (fun i _ hi => Or.inr (by simp [lgFoot, hi])), fun k hk => Or.inl hk⟩

theorem lg0 {w w' : World} {b : Nat} {D D' : Dk} {L : Lay} {lb : Nat} {v : Value} {recs : List ByteArray} {torn : Bool} (h : Both w b D L lb v recs torn) (hp : DkPost b L D' w w') : w'.cell? ⟨lb, 0, none⟩ = some (.pointer (some ⟨b, 0, none⟩)) := by
  obtain ⟨L', v', h1, _⟩ := h.dkPost hp
  exact h1.lg.blk.cell 0

set_option maxHeartbeats 3200000 in
set_option maxRecDepth 100000 in
theorem add_torn (b : Nat) (D : Dk) (L : Lay) (lb : Nat) (v : Value) (recs : List ByteArray) (s : ByteArray) (w : World) (h : Both w b D L lb v recs true) (hs : s.size ≤ 5000) (hn : recs.length < 200) (hz : (frames (recs ++ [s])).size ≤ 1073741824) (hr : ∀ r ∈ recs, r.size ≤ 1073741824) (hsm : D.small 1000000) :
    Calls Try.prog 45 #[.pointer (some ⟨lb, 0, none⟩), .string s] w fun e w' => e = .returned (.int .i64 (lgReplace D (recs ++ [s])).2) ∧ AddTPost b D L lb v recs s w w' := by
  obtain ⟨i0, hi0, hz0, hz1, hz2⟩ := info_parts infoStr
  have c0 : w.cell? ⟨lb, 0, none⟩ = some (.pointer (some ⟨b, 0, none⟩)) := h.lg.blk.cell 0
  have c1 : w.cell? ⟨lb, 1, none⟩ = some v := h.lg.blk.cell 1
  have c2 : w.cell? ⟨lb, 2, none⟩ = some (.bool true) := h.lg.blk.cell 2
  have hlb := h.lg.blk.lt
  obtain ⟨ad, cp, rfl⟩ : ∃ ad cp, v = .slice ad recs.length cp := by
    rcases h.lg.row.2 with ⟨h1, h2⟩ | ⟨g, cap, _, hv, _⟩
    · exact ⟨none, 0, by rw [h1, show recs.length = 0 from h2]⟩
    · exact ⟨_, _, hv⟩
  have HREC := Lib.hid fun (w1 : World) (hb1 : Below w.heap.size w w1) => (records_any lb b _ recs true w1 (h.lg.below hb1) (by omega)).mono fun (e : Ending) (w3 : World) ⟨u, h1, h2, h3, h4⟩ =>
    (⟨u, h1, ownsRow_base h2 hb1.size, hb1.trans (h3.mono hb1.size), h3, h4, ((hb1.trans (h3.mono hb1.size)).cell (p := ⟨lb, 0, none⟩) hlb).trans c0⟩ : ∃ u : Value, e = Ending.returned u ∧ w3.ownsRow w.heap.size 9 1 u recs.length (recs.map Value.string) ∧ Below w.heap.size w w3 ∧ Below w1.heap.size w1 w3 ∧ (∃ ad cp, u = Value.slice ad recs.length cp) ∧ w3.cell? ⟨lb, 0, none⟩ = some (Value.pointer (some ⟨b, 0, none⟩)))
  have HA := Lib.hid fun (w3 : World) (u : Value) (hb3 : Below w.heap.size w w3) (hu : ReadsS w3 u (recs ++ [s])) =>
    (replace_any b D L u (recs ++ [s]) w3 (h.dk.below hb3) hu (by simp; omega) hz (fun r hm => by
      rcases List.mem_append.1 hm with hm | hm
      · exact hr r hm
      · rw [List.mem_singleton.1 hm]; omega) hsm).mono (fun e w' he => (⟨he.1, DkPost.trans (Touch.of_below _ hb3) (fun k hk => Or.inl hk) he.2, lg0 h (DkPost.trans (Touch.of_below _ hb3) (fun k hk => Or.inl hk) he.2)⟩ : e = Ending.returned (.int .i64 (lgReplace D (recs ++ [s])).2) ∧ DkPost b L (lgReplace D (recs ++ [s])).1 w w' ∧ w'.cell? ⟨lb, 0, none⟩ = some (Value.pointer (some ⟨b, 0, none⟩))))
  have H := Lib.hid h
  have hP : ∀ w', AddTPost b D L lb (.slice ad recs.length cp) recs s w w' = WlPost b L lb (.slice ad recs.length cp) (lgReplace D (recs ++ [s])).1 (if (lgReplace D (recs ++ [s])).2 = 0 then recs ++ [s] else recs) (if (lgReplace D (recs ++ [s])).2 = 0 then false else true) w w' := fun _ => rfl
  have HP := Lib.hid hP
  clear h hr hz hsm hP
  generalize lgReplace D (recs ++ [s]) = r1 at *
  obtain ⟨D1, e1⟩ := r1
  go_enter Try.func45, Try.ntmps45
  go_upto_region 4 with fail
  go_cut [5] (fun s5 wc => s5 = .int .i64 e1 ∧ DkPost b L D1 w wc)
  case first =>
    go_region_held3 (fun w' => w'.cell? ⟨lb, 0, none⟩ = some (.pointer (some ⟨b, 0, none⟩))) (go_keep)
      (first
        | (go_at_call 51; refine (HREC.out _ ?_).mono ?_; (first | exact Below.refl _ _ | exact (Below.refl _ w).drew | exact ((Below.refl _ w).drew).alloc (by simp) _ | exact (((Below.refl _ w).drew).alloc (by simp) _).drew); rintro e w3 ⟨u, rfl, ho3, hb3, hbb, ⟨ad3, cp3, rfl⟩, hcl3⟩; have hsz3 := hb3.size)
        | (go_at_call 78; refine (HA.out _ _ hb4 ho4).mono ?_; rintro e w5 ⟨rfl, hp5, hcl5⟩)
        | (refine step_append_lies _ (by rfl) _ _ _ (by rfl) w.heap.size 9 i0 _ 1 16 Try.underlying25 hi0 hz0 hz1 hz2 rfl (by decide) (.slice ad3 recs.length cp3) recs.length (recs.map .string) (by rfl) (ho3.alloc _) ⟨w3.heap.size, 0, none⟩ 1 1 [.string s] (by rfl) (by rfl) (World.news_of_block (cs := #[.string s]) (heap_alloc_new w3 _)) (by simp [Value.oneCell']) (by decide) (by unfold maxLen; omega) (by omega) (by simp; omega) _ rfl ?_; intro g cap w4 hown4 hgrow hat hlt; have hb4 : Below w.heap.size w w4 := below_grown (hb3.alloc hsz3 _) (by simp; omega) (ho3.alloc _) hgrow; have hcl4 : w4.cell? ⟨lb, 0, none⟩ = some (.pointer (some ⟨b, 0, none⟩)) := (hb4.cell (p := ⟨lb, 0, none⟩) hlb).trans c0; have ho4 : ReadsS w4 (.slice (some ⟨g, 0, none⟩) (recs.length + 1) cap) (recs ++ [s]) := by have := readsS_own (l := recs ++ [s]) (by rw [List.length_append, List.map_append]; exact hown4); exact this)
        | (refine step_append_lies _ (by rfl) _ _ _ (by rfl) w.heap.size 9 i0 _ 1 16 Try.underlying25 hi0 hz0 hz1 hz2 rfl (by decide) (.slice ad3 recs.length cp3) recs.length (recs.map .string) (by rfl) ho3 ⟨w.heap.size, 0, none⟩ 1 1 [.string s] (by rfl) (by rfl) (World.news_of_block (cs := #[.string s]) ((hbb.block w.heap.size (by simp)).trans (heap_alloc_new w.drew _))) (by simp [Value.oneCell']) (by decide) (by unfold maxLen; omega) (by omega) hsz3 _ rfl ?_; intro g cap w4 hown4 hgrow hat hlt; have hb4 : Below w.heap.size w w4 := below_grown hb3 hsz3 ho3 hgrow; have hcl4 : w4.cell? ⟨lb, 0, none⟩ = some (.pointer (some ⟨b, 0, none⟩)) := (hb4.cell (p := ⟨lb, 0, none⟩) hlb).trans c0; have ho4 : ReadsS w4 (.slice (some ⟨g, 0, none⟩) (recs.length + 1) cap) (recs ++ [s]) := by have := readsS_own (l := recs ++ [s]) (by rw [List.length_append, List.map_append]; exact hown4); exact this))
    all_goals (go_wp2_with fail; go_meet; exact ⟨rfl, hp5⟩)
  case rest =>
    obtain ⟨rfl, hp⟩ := hcut
    obtain ⟨L1, hb1, ht1, hf1⟩ := H.out.post hp
    have P1 := Lib.hid (fun D2 r2 t2 w2 (h : WlPost b L1 lb (.slice ad recs.length cp) D2 r2 t2 wc w2) => WlPost.trans ht1 hf1 h)
    have H1 := Lib.hid hb1
    have c1c : wc.cell? ⟨lb, 1, none⟩ = some (.slice ad recs.length cp) := hb1.lg.blk.cell 1
    have hrow1 := hb1.lg.row
    clear hp hb1 ht1 hf1 c0 c1 c2
    by_cases n1 : e1 = 0
    rotate_left 1
    · have q1 : (e1 != 0) = true := by simpa using n1
      have hfin : AddTPost b D L lb (.slice ad recs.length cp) recs s w wc := by
        rw [HP.out, if_neg n1, if_neg n1]
        exact P1.out _ _ _ _ ⟨L1, _, H1.out, Touch.refl _ _, fun k hk => Or.inl hk⟩
      have HFi := Lib.hid hfin
      clear n1 hfin
      go_wp2
      go_ret
      exact ⟨rfl, HFi.out⟩
    · subst n1
      go_wp2_with (first
         | (at_builtin; refine wpList_app1 rfl _ _ 25 rfl 0 9 Try.underlying25 infoStr rfl (by decide) _ _ _ rfl hrow1 _ rfl rfl (oneCell_string _) ?_ ?_ (Nat.zero_le _) ?_; omega; omega; intro g6 cap6 w6 hst6 hgr6 _ hloc6;
              have HL := Lib.hid (log_fin H1.out (n := recs.length + 1) (g := g6) (cap := cap6) (recs' := recs ++ [s]) (by simp) (by rw [List.map_append]; exact hst6) hgr6 (hloc6.imp id (fun e => by omega)));
              have c16 : w6.cell? ⟨lb, 1, none⟩ = some (.slice ad recs.length cp) := (World.cell?_of_block (w := wc) (hgr6.block lb H1.out.lg.blk.lt (fun e => H1.out.lg.ne e.symm))).trans c1c;
              have f16 : w6.frozen? ⟨lb, 1, none⟩ = false := (World.frozen?_of_block (w := wc) (hgr6.block lb H1.out.lg.blk.lt (fun e => H1.out.lg.ne e.symm))).trans (H1.out.lg.blk.free 1);
              have c26 : w6.cell? ⟨lb, 2, none⟩ = some (.bool true) := (World.cell?_of_block (w := wc) (hgr6.block lb H1.out.lg.blk.lt (fun e => H1.out.lg.ne e.symm))).trans (H1.out.lg.blk.cell 2);
              have f26 : w6.frozen? ⟨lb, 2, none⟩ = false := (World.frozen?_of_block (w := wc) (hgr6.block lb H1.out.lg.blk.lt (fun e => H1.out.lg.ne e.symm))).trans (H1.out.lg.blk.free 2)))
      go_ret
      obtain ⟨L7, v7, hb7, ht7, hf7⟩ := HL.out
      refine ⟨rfl, ?_⟩
      rw [HP.out]
      exact (P1.out _ _ _ _ (WlPost.trans ht7 hf7 (torn_fin hb7)))
end Go.Proofs.Ytjdkhainlcalbaa
