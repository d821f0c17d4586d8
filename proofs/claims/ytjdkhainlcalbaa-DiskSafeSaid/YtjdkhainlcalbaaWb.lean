/- The log's replace and Format. -/
import Derived.Test.YtjdkhainlcalbaaWa
import Derived.Test.YtjdkhainlcalbaaDd
namespace Go.Proofs.Ytjdkhainlcalbaa
open Go.RowKit Go.Maps

/-- a slice value reads as these texts -/
def ReadsS (w : World) (v : Value) (l : List ByteArray) : Prop := ∃ a c, v = .slice a l.length c ∧ (∀ i (h : i < l.length), ∃ b o, a = some ⟨b, o, none⟩ ∧ b < w.heap.size ∧ w.cell? ⟨b, o + i, none⟩ = some (.string l[i]))
theorem readsS_nil (w : World) : ReadsS w (.slice none 0 0) [] := ⟨none, 0, rfl, fun i h => absurd h (by simp)⟩
theorem readsS_own {w : World} {base : Nat} {e : TypeId} {v : Value} {l : List ByteArray} (h : w.ownsRow base e 1 v l.length (l.map .string)) : ReadsS w v l := by
  rcases h.2 with ⟨rfl, h0⟩ | ⟨g, cap, cur, hv, _⟩
  · have : l = [] := List.length_eq_zero_iff.1 h0
    subst this; exact readsS_nil w
  · subst hv
    refine ⟨_, _, rfl, fun i hi => ⟨g, 0, rfl, (ownsRow_lt h (k := g) rfl).2, ?_⟩⟩
    have := own_cell h (j := i) (u := .string l[i]) (by simp [List.getElem?_eq_getElem hi])
    have hadd : (⟨g, 0, none⟩ : Addr).add i = ⟨g, 0 + i, none⟩ := by unfold Addr.add; split <;> simp_all
    rw [hadd] at this; exact this
theorem ReadsS.keep {w w' : World} {v : Value} {l : List ByteArray} (h : ReadsS w v l) (hk : ∀ b, v.ownBlock = some b → w'.heap[b]? = w.heap[b]?) (hz : w.heap.size ≤ w'.heap.size) : ReadsS w' v l := by
  obtain ⟨a, c, rfl, hc⟩ := h
  refine ⟨a, c, rfl, fun i hi => ?_⟩
  obtain ⟨b, o, rfl, hb, hcell⟩ := hc i hi
  exact ⟨b, o, rfl, Nat.lt_of_lt_of_le hb hz, (World.cell?_of_block (w := w) (hk b rfl)).trans hcell⟩
theorem ReadsS.below {w w' : World} {v : Value} {l : List ByteArray} (h : ReadsS w v l) (hb : Below w.heap.size w w') : ReadsS w' v l := by
  obtain ⟨a, c, rfl, hc⟩ := h
  refine ⟨a, c, rfl, fun i hi => ?_⟩
  obtain ⟨b, o, rfl, hbl, hcell⟩ := hc i hi
  exact ⟨b, o, rfl, Nat.lt_of_lt_of_le hbl hb.size, (hb.cell (p := ⟨b, o + i, none⟩) hbl).trans hcell⟩

def frames (l : List ByteArray) : ByteArray := l.foldl (fun a r => a ++ frame r) ⟨#[]⟩
theorem frames_take (l : List ByteArray) (k : Nat) (h : k < l.length) : frames (l.take (k + 1)) = frames (l.take k) ++ frame l[k] := by
  unfold frames
  rw [List.take_succ_eq_append_getElem h, List.foldl_append]; rfl
theorem fold_size (l : List ByteArray) : ∀ a : ByteArray, a.size ≤ (l.foldl (fun a r => a ++ frame r) a).size := by
  induction l with
  | nil => exact fun a => Nat.le_refl _
  | cons x r ih => exact fun a => Nat.le_trans (by rw [ByteArray.size_append]; omega) (ih (a ++ frame x))
theorem frames_mono (l : List ByteArray) (k : Nat) : (frames (l.take k)).size ≤ (frames l).size := by
  have : frames l = (l.drop k).foldl (fun a r => a ++ frame r) (frames (l.take k)) := by
    unfold frames; rw [← List.foldl_append, List.take_append_drop]
  rw [this]; exact fold_size _ _

def logTemp : ByteArray := ⟨#[108, 111, 103, 46, 110, 101, 119]⟩
def logName : ByteArray := ⟨#[108, 111, 103]⟩
def thenOk (r : Dk × Int) (f : Dk → Dk × Int) : Dk × Int := if r.2 = 0 then f r.1 else r
def lgReplace (D : Dk) (recs : List ByteArray) : Dk × Int :=
  if (D.remove logTemp).2 = 0 ∨ (D.remove logTemp).2 = 7 then
    thenOk ((D.remove logTemp).1.append logTemp (frames recs)) fun D => thenOk (D.sync logTemp) fun D => thenOk (D.rename logTemp logName) fun D => D.settle
  else D.remove logTemp

theorem thenOk_no {r : Dk × Int} {f : Dk → Dk × Int} (h : r.2 ≠ 0) : thenOk r f = r := if_neg h
theorem thenOk_ok {r : Dk × Int} {f : Dk → Dk × Int} (h : r.2 = 0) : thenOk r f = f r.1 := if_pos h
def Dk.small (D : Dk) (n : Nat) : Prop := D.files.length ≤ n ∧ D.steps.length ≤ n
theorem small_remove {D : Dk} {n : Nat} (h : D.small n) (name : ByteArray) : (D.remove name).1.small (n + 1) := by
  obtain ⟨h1, h2⟩ := h
  unfold Dk.remove
  split
  · exact ⟨Nat.le_succ_of_le h1, Nat.le_succ_of_le h2⟩
  · split
    · exact ⟨Nat.le_succ_of_le h1, by simp; omega⟩
    · exact ⟨Nat.le_succ_of_le h1, Nat.le_succ_of_le h2⟩
theorem small_append {D : Dk} {n : Nat} (h : D.small n) (name data : ByteArray) : (D.append name data).1.small (n + 1) := by
  obtain ⟨h1, h2⟩ := h
  have ha : D.alive.small (n + 1) := ⟨Nat.le_succ_of_le h1, Nat.le_succ_of_le h2⟩
  unfold Dk.append
  split
  · exact ha
  · split
    · exact ha
    · split
      · exact ha
      · unfold Dk.put
        split
        · exact ⟨by simp; exact ha.1, ha.2⟩
        · exact ⟨by simp; exact h1, by simp; exact h2⟩
theorem small_sync {D : Dk} {n : Nat} (h : D.small n) (name : ByteArray) : (D.sync name).1.small n := by
  obtain ⟨h1, h2⟩ := h
  unfold Dk.sync
  split
  · exact ⟨h1, h2⟩
  · split
    · exact ⟨by simp; exact h1, h2⟩
    · exact ⟨h1, h2⟩
theorem small_rename {D : Dk} {n : Nat} (h : D.small n) (name dst : ByteArray) : (D.rename name dst).1.small (n + 1) := by
  obtain ⟨h1, h2⟩ := h
  have ha : D.alive.small (n + 1) := ⟨Nat.le_succ_of_le h1, Nat.le_succ_of_le h2⟩
  unfold Dk.rename
  split
  · exact ha
  · split
    · split
      · exact ha
      · exact ⟨Nat.le_succ_of_le h1, by simp; exact h2⟩
    · exact ha
theorem small_settle {D : Dk} {n : Nat} (h : D.small n) : D.settle.1.small n := by
  obtain ⟨h1, h2⟩ := h
  unfold Dk.settle
  split
  · exact ⟨h1, h2⟩
  · exact ⟨h1, Nat.zero_le _⟩
theorem Dk.small.mono {D : Dk} {n m : Nat} (h : D.small n) (hm : n ≤ m) : D.small m := ⟨Nat.le_trans h.1 hm, Nat.le_trans h.2 hm⟩

theorem DkPost.trans {b : Nat} {L L1 : Lay} {D2 : Dk} {w w1 w2 : World} (ht : Touch (· ∈ foot b L) w w1) (hf : ∀ k ∈ foot b L1, k ∈ foot b L ∨ w.heap.size ≤ k) (h : DkPost b L1 D2 w1 w2) : DkPost b L D2 w w2 := by
  obtain ⟨L2, h1, h2, h3⟩ := h
  refine ⟨L2, h1, ht.trans h2 (fun i hi hm => (hf i hm).resolve_right (by omega)), fun k hk => ?_⟩
  rcases h3 k hk with h | h
  · exact hf k h
  · exact Or.inr (Nat.le_trans ht.size h)
theorem DkPost.of {b : Nat} {L : Lay} {D : Dk} {w w' : World} (h : DiskAt w' b D L) (ht : Below w.heap.size w w') : DkPost b L D w w' := ⟨L, h, Touch.of_below _ ht, fun _ hk => Or.inl hk⟩

set_option maxHeartbeats 1600000 in
set_option maxRecDepth 100000 in
theorem replace_any (b : Nat) (D : Dk) (L : Lay) (v : Value) (recs : List ByteArray) (w : World) (h : DiskAt w b D L) (hv : ReadsS w v recs) (hn : recs.length ≤ 1048576) (hz : (frames recs).size ≤ 1073741824) (hr : ∀ r ∈ recs, r.size ≤ 1073741824) (hsm : D.small 1000000) :
    Calls Try.prog 78 #[.pointer (some ⟨b, 0, none⟩), v] w fun e w' => e = .returned (.int .i64 (lgReplace D recs).2) ∧ DkPost b L (lgReplace D recs).1 w w' := by
  have hv0 := hv
  obtain ⟨a, c, rfl, hcell⟩ := hv
  have HC := Lib.hid hcell
  have H := Lib.hid h
  have HR := Lib.hid hr
  have HS := Lib.hid hsm
  clear hcell h hv0 hr hsm
  go_enter Try.func78, Try.ntmps78
  go_wp2
  go_loopw [5, 14] (fun s i wr => ∃ k : Nat, k ≤ recs.length ∧ i = .int .i64 k ∧ s = .string (frames (recs.take k)) ∧ Below w.heap.size w wr) (fun _ i _ => recs.length - (intOf i).toNat)
  case atStart => exact ⟨0, Nat.zero_le _, rfl, rfl, Below.refl _ _⟩
  case round =>
    obtain ⟨k, hk, rfl, rfl, hb⟩ := hrel
    by_cases hlt : k < recs.length
    · obtain ⟨bb, oo, rfl, hbb, hcc⟩ := HC.out k hlt
      have hcr : wr.cell? ⟨bb, oo + k, none⟩ = some (.string recs[k]) := (hb.cell (p := ⟨bb, oo + k, none⟩) hbb).trans hcc
      have hf := frames_take recs k hlt
      have hm := frames_mono recs k
      have hm1 := frames_mono recs (k + 1)
      rw [hf, ByteArray.size_append] at hm1
      have hrk := HR.out recs[k] (List.getElem_mem _)
      have HFr := Lib.hid (fun w => frame_any recs[k] w (by omega))
      have HF := Lib.hid hf
      have hm2 : (frames (recs.take k)).size + (frame recs[k]).size ≤ 1073741824 := by omega
      clear hf hcc
      generalize frames (recs.take k) = all at *
      generalize recs[k] = r at *
      generalize hfr : frame r = fr at *
      clear hfr
      go_wp2_with (go_at_call 48; refine (HFr.out _).mono ?_; rintro e w2 ⟨rfl, hb2⟩)
      go_roundw
      case rel => exact ⟨k + 1, by omega, by go_num, by rw [HF.out], hb.trans (hb2.mono hb.size)⟩
      case measure => simp [intOf]; omega
    · obtain rfl : k = recs.length := by omega
      rw [List.take_length]
      have HB := Lib.hid hb
      have h1 := H.out.below hb
      have H1 := Lib.hid h1
      have hsp : lgReplace D recs = if (D.remove logTemp).2 = 0 ∨ (D.remove logTemp).2 = 7 then
          thenOk ((D.remove logTemp).1.append logTemp (frames recs)) (fun D => thenOk (D.sync logTemp) fun D => thenOk (D.rename logTemp logName) fun D => D.settle) else D.remove logTemp := rfl
      have HSP := Lib.hid hsp
      clear hb h1 hsp
      generalize frames recs = all at *
      have hcall := remove_any b D L logTemp wr H1.out (by decide) (by have := HS.out.2; omega)
      have s2 := small_remove HS.out logTemp
      generalize D.remove logTemp = r1 at *
      obtain ⟨D1, e1⟩ := r1
      have HC1 := Lib.hid hcall
      have S2 := Lib.hid s2
      clear hcall s2
      go_wp2_with fail
      refine HC1.out.mono ?_
      rintro e w2 ⟨rfl, L2, h2, t2, f2⟩
      have P2 := Lib.hid (fun (D' : Dk) (w' : World) (h : DkPost b L2 D' w2 w') => DkPost.trans (Touch.of_below _ HB.out) (fun k hk => Or.inl hk) (DkPost.trans t2 f2 h))
      have H2 := Lib.hid h2
      clear h2 t2 f2
      have hz1 : e1 = 0 ∨ e1 = 7 ∨ (e1 ≠ 0 ∧ e1 ≠ 7) := by omega
      rcases hz1 with rfl | rfl | ⟨n1, n2⟩
      rotate_left 2
      · have q1 : (e1 != 0) = true := by simpa using n1
        have q2 : (e1 != 7) = true := by simpa using n2
        have hs : lgReplace D recs = (D1, e1) := by rw [HSP.out, if_neg (by simp [n1, n2])]
        have HS2 := Lib.hid hs
        clear hs n1 n2
        go_wp2
        go_ret
        rw [HS2.out]
        exact ⟨rfl, P2.out _ _ ⟨L2, H2.out, Touch.refl _ _, fun k hk => Or.inl hk⟩⟩
      all_goals
        have hs : lgReplace D recs = thenOk (D1.append logTemp all) (fun D => thenOk (D.sync logTemp) fun D => thenOk (D.rename logTemp logName) fun D => D.settle) := by rw [HSP.out, if_pos (by simp)]
        have hcall := append_any b D1 L2 logTemp all w2 H2.out (by decide) (by omega) (by have := S2.out.1; simp at this; omega) (by have := S2.out.2; simp at this; omega)
        have s3 := small_append S2.out logTemp all
        generalize D1.append logTemp all = r2 at *
        obtain ⟨D2, e2⟩ := r2
        have HC2 := Lib.hid hcall
        have S3 := Lib.hid s3
        have HS2 := Lib.hid hs
        clear hcall s3 hs
        go_wp2_with fail
        refine HC2.out.mono ?_
        rintro e w3 ⟨rfl, L3, h3, t3, f3⟩
        have P3 := Lib.hid (fun (D' : Dk) (w' : World) (h : DkPost b L3 D' w3 w') => P2.out D' w' (DkPost.trans t3 f3 h))
        have H3 := Lib.hid h3
        clear h3 t3 f3
        by_cases n2 : e2 = 0
        rotate_left 1
        · have q2 : (e2 != 0) = true := by simpa using n2
          have hs := HS2.out.trans (thenOk_no n2)
          have HS3 := Lib.hid hs
          clear hs n2
          go_wp2
          go_ret
          rw [HS3.out]
          exact ⟨rfl, P3.out _ _ ⟨L3, H3.out, Touch.refl _ _, fun k hk => Or.inl hk⟩⟩
        · subst n2
          have hs := HS2.out.trans (thenOk_ok rfl)
          have hcall := sync_any b D2 L3 logTemp w3 H3.out (by decide)
          have s4 := small_sync S3.out logTemp
          dsimp only at hs
          generalize D2.sync logTemp = r3 at *
          obtain ⟨D3, e3⟩ := r3
          have HC3 := Lib.hid hcall
          have S4 := Lib.hid s4
          have HS3 := Lib.hid hs
          clear hcall s4 hs
          go_wp2_with fail
          refine HC3.out.mono ?_
          rintro e w4 ⟨rfl, L4, h4, t4, f4⟩
          have P4 := Lib.hid (fun (D' : Dk) (w' : World) (h : DkPost b L4 D' w4 w') => P3.out D' w' (DkPost.trans t4 f4 h))
          have H4 := Lib.hid h4
          clear h4 t4 f4
          by_cases n3 : e3 = 0
          rotate_left 1
          · have q3 : (e3 != 0) = true := by simpa using n3
            have hs := HS3.out.trans (thenOk_no n3)
            have HS4 := Lib.hid hs
            clear hs n3
            go_wp2
            go_ret
            rw [HS4.out]
            exact ⟨rfl, P4.out _ _ ⟨L4, H4.out, Touch.refl _ _, fun k hk => Or.inl hk⟩⟩
          · subst n3
            have hs := HS3.out.trans (thenOk_ok rfl)
            have hcall := rename_any b D3 L4 logTemp logName w4 H4.out (by decide) (by decide) (by have := S4.out.2; simp at this; omega) (by have := S4.out.1; simp at this; omega)
            dsimp only at hs
            generalize D3.rename logTemp logName = r4 at *
            obtain ⟨D4, e4⟩ := r4
            have HC4 := Lib.hid hcall
            have HS4 := Lib.hid hs
            clear hcall hs
            go_wp2_with fail
            refine HC4.out.mono ?_
            rintro e w5 ⟨rfl, L5, h5, t5, f5⟩
            have P5 := Lib.hid (fun (D' : Dk) (w' : World) (h : DkPost b L5 D' w5 w') => P4.out D' w' (DkPost.trans t5 f5 h))
            have H5 := Lib.hid h5
            clear h5 t5 f5
            by_cases n4 : e4 = 0
            rotate_left 1
            · have q4 : (e4 != 0) = true := by simpa using n4
              have hs := HS4.out.trans (thenOk_no n4)
              have HS5 := Lib.hid hs
              clear hs n4
              go_wp2
              go_ret
              rw [HS5.out]
              exact ⟨rfl, P5.out _ _ ⟨L5, H5.out, Touch.refl _ _, fun k hk => Or.inl hk⟩⟩
            · subst n4
              have hs := HS4.out.trans (thenOk_ok rfl)
              have hcall := settle_any b D4 L5 w5 H5.out
              dsimp only at hs
              have HC5 := Lib.hid hcall
              have HS5 := Lib.hid hs
              clear hcall hs
              go_wp2_with fail
              refine HC5.out.mono ?_
              rintro e w6 ⟨rfl, h6⟩
              have H6 := Lib.hid h6
              clear h6
              go_wp2
              go_ret
              rw [HS5.out]
              exact ⟨rfl, P5.out _ _ H6.out⟩

set_option maxHeartbeats 400000 in
set_option maxRecDepth 100000 in
theorem format_any (b : Nat) (D : Dk) (L : Lay) (w : World) (h : DiskAt w b D L) (hsm : D.small 1000000) :
    Calls Try.prog 77 #[.pointer (some ⟨b, 0, none⟩)] w fun e w' => e = .returned (.int .i64 (lgReplace D []).2) ∧ DkPost b L (lgReplace D []).1 w w' := by
  have H := Lib.hid (replace_any b D L (.slice none 0 0) [] w h (readsS_nil w) (by decide) (by decide) (fun r hr => by cases hr) hsm)
  clear h hsm
  go_enter Try.func77, Try.ntmps77
  go_wp2_with fail
  refine H.out.mono ?_
  rintro e w2 ⟨rfl, h2⟩
  have H2 := Lib.hid h2
  clear h2
  go_wp2
  go_ret
  exact ⟨rfl, H2.out⟩
end Go.Proofs.Ytjdkhainlcalbaa
