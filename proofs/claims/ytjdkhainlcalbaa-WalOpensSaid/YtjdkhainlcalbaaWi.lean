/- The log's Torn and Reset; the law's 'others'; the laws' own log. -/
import Derived.Test.YtjdkhainlcalbaaWh
namespace Go.Proofs.Ytjdkhainlcalbaa
open Go.RowKit Go.Maps

set_option maxHeartbeats 400000 in
set_option maxRecDepth 100000 in
theorem torn_any (lb b : Nat) (v : Value) (recs : List ByteArray) (torn : Bool) (w : World) (h : LgAt w lb b v recs torn) :
    Calls Try.prog 52 #[.pointer (some ⟨lb, 0, none⟩)] w fun e w' => e = .returned (.bool torn) ∧ w = w' := by
  have c2 : w.cell? ⟨lb, 2, none⟩ = some (.bool torn) := h.blk.cell 2
  clear h
  go_enter Try.func52, Try.ntmps52
  go_wp2
  go_ret
  exact ⟨rfl, rfl⟩

/-- what a reset leaves -/
def ResetPost (b : Nat) (D : Dk) (L : Lay) (lb : Nat) (v : Value) (recs : List ByteArray) (torn : Bool) (w w' : World) : Prop :=
  WlPost b L lb v (lgReplace D []).1 (if (lgReplace D []).2 = 0 then [] else recs) (if (lgReplace D []).2 = 0 then false else torn) w w'

theorem reset_fin {b : Nat} {D : Dk} {L : Lay} {lb : Nat} {v : Value} {recs : List ByteArray} {torn : Bool} {w : World} (h : Both w b D L lb v recs torn) :
    WlPost b L lb v D [] false w ((w.setCell ⟨lb, 1, none⟩ (.slice none 0 0)).setCell ⟨lb, 2, none⟩ (.bool false)) := by
  have hlb := h.lg.blk.lt
  have hT : Touch (fun k => k = lb) w ((w.setCell ⟨lb, 1, none⟩ (.slice none 0 0)).setCell ⟨lb, 2, none⟩ (.bool false)) := (Touch.setc w lb 1 _).trans (Touch.setc _ lb 2 _) (fun _ _ h => h)
  refine ⟨L, .slice none 0 0, ⟨h.dk.keep hT (fun k hk e => h.sep lb (by simp [lgFoot]) (e ▸ hk)), ⟨(h.lg.blk.set 1 _).set 2 _, ⟨rfl, Or.inl ⟨rfl, rfl⟩⟩⟩, fun k hk hf => ?_⟩, hT.mono (fun i _ hi => Or.inr (by simp [lgFoot, hi])), fun k hk => ?_⟩
  · have : k = lb := by simpa [lgFoot, Value.ownBlock] using hk
    subst this
    exact h.sep k (by simp [lgFoot]) hf
  · rcases hk with hk | hk
    · exact Or.inl (Or.inl hk)
    · have : k = lb := by simpa [lgFoot, Value.ownBlock] using hk
      exact Or.inl (Or.inr (by simp [lgFoot, this]))

set_option maxHeartbeats 800000 in
set_option maxRecDepth 100000 in
theorem reset_any (b : Nat) (D : Dk) (L : Lay) (lb : Nat) (v : Value) (recs : List ByteArray) (torn : Bool) (w : World) (h : Both w b D L lb v recs torn) (hsm : D.small 1000000) :
    Calls Try.prog 44 #[.pointer (some ⟨lb, 0, none⟩)] w fun e w' => e = .returned (.int .i64 (lgReplace D []).2) ∧ ResetPost b D L lb v recs torn w w' := by
  have c0 : w.cell? ⟨lb, 0, none⟩ = some (.pointer (some ⟨b, 0, none⟩)) := h.lg.blk.cell 0
  have HC := Lib.hid (replace_any b D L (.slice none 0 0) [] w h.dk (readsS_nil w) (by decide) (by decide) (fun r hr => by simp at hr) hsm)
  have H := Lib.hid h
  have hP : ∀ w', ResetPost b D L lb v recs torn w w' = WlPost b L lb v (lgReplace D []).1 (if (lgReplace D []).2 = 0 then [] else recs) (if (lgReplace D []).2 = 0 then false else torn) w w' := fun _ => rfl
  have HP := Lib.hid hP
  clear h hP
  generalize lgReplace D [] = r at *
  obtain ⟨D1, e1⟩ := r
  go_enter Try.func44, Try.ntmps44
  go_wp2_with fail
  refine HC.out.mono ?_
  rintro e w1 ⟨rfl, hp⟩
  obtain ⟨L1, hb1, ht1, hf1⟩ := H.out.post hp
  have P1 := Lib.hid (fun D2 r2 t2 w2 (h : WlPost b L1 lb v D2 r2 t2 w1 w2) => WlPost.trans ht1 hf1 h)
  have H1 := Lib.hid hb1
  have f1 : w1.frozen? ⟨lb, 1, none⟩ = false := hb1.lg.blk.free 1
  have f2 : w1.frozen? ⟨lb, 2, none⟩ = false := hb1.lg.blk.free 2
  have k1 : w1.cell? ⟨lb, 1, none⟩ = some v := hb1.lg.blk.cell 1
  have k2 : w1.cell? ⟨lb, 2, none⟩ = some (.bool torn) := hb1.lg.blk.cell 2
  clear hp hb1 ht1 hf1 HC
  by_cases n1 : e1 = 0
  · subst n1
    go_wp2
    go_ret
    rw [HP.out]
    exact ⟨rfl, P1.out _ _ _ _ (reset_fin H1.out)⟩
  · have q1 : (e1 != 0) = true := by simpa using n1
    have hfin : WlPost b L lb v D1 (if e1 = 0 then [] else recs) (if e1 = 0 then false else torn) w w1 := by
      rw [if_neg n1, if_neg n1]
      exact P1.out _ _ _ _ ⟨L1, _, H1.out, Touch.refl _ _, fun k hk => Or.inl hk⟩
    have HFi := Lib.hid hfin
    clear n1 hfin
    go_wp2
    go_ret
    rw [HP.out]
    exact ⟨rfl, HFi.out⟩

set_option maxHeartbeats 800000 in
set_option maxRecDepth 100000 in
theorem others_any (b : Nat) (D : Dk) (L : Lay) (w : World) (h : DiskAt w b D L) (hr : D.read otherName = (otherData, 0)) (hd : D.dead = false) (hn : 2 ≤ (kvNames D.folder).length ∧ (kvNames D.folder).length ≤ 3) :
    Calls Try.prog 46 #[.pointer (some ⟨b, 0, none⟩)] w fun e w' => e = .returned (.bool true) ∧ Below w.heap.size w w' := by
  have h1 := read_any b D L otherName w h (by decide)
  rw [hr] at h1
  have HR := Lib.hid h1
  have HL := Lib.hid (list_any b D L w h hd (by have := kvNames_len D.folder; omega))
  obtain ⟨n1, n2⟩ := hn
  clear h h1 hr hd
  generalize kvNames D.folder = names at *
  go_enter Try.func46, Try.ntmps46
  go_wp2_with fail
  refine HR.out.mono ?_
  rintro e w1 ⟨rfl, rfl⟩
  go_wp2_with fail
  refine HL.out.mono ?_
  rintro e w2 ⟨v, rfl, ho, hb⟩
  obtain ⟨a, c, rfl⟩ : ∃ a c, v = .slice a names.length c := by
    rcases ho.2 with ⟨q1, q2⟩ | ⟨g, cap, _, hv, _⟩
    · exact ⟨none, 0, by rw [q1, show names.length = 0 from q2]⟩
    · exact ⟨_, _, hv⟩
  have HB := Lib.hid hb
  clear ho hb
  have HN2 := Lib.hid (decide_eq_true (show (names.length : Int) ≤ 3 by omega))
  have hod : otherData.toList = [115, 111, 109, 101, 116, 104, 105, 110, 103] := by rw [ba_toList]; rfl
  go_wp2
  go_ret
  exact ⟨ret_bool HN2.out, HB.out⟩

/-- a log and its disk lie above what was there at the start -/
structure WlUp (w0 w : World) (b : Nat) (D : Dk) (L : Lay) (lb : Nat) (v : Value) (recs : List ByteArray) (torn : Bool) : Prop where
  both : Both w b D L lb v recs torn
  bel : Below w0.heap.size w0 w
  new : ∀ k, bothFoot b L lb v k → w0.heap.size ≤ k
theorem WlUp.post {w0 w w' : World} {b : Nat} {D D' : Dk} {L : Lay} {lb : Nat} {v : Value} {recs recs' : List ByteArray} {torn torn' : Bool} (h : WlUp w0 w b D L lb v recs torn) (hp : WlPost b L lb v D' recs' torn' w w') : ∃ L' v', WlUp w0 w' b D' L' lb v' recs' torn' := by
  obtain ⟨L', v', h1, h2, h3⟩ := hp
  have hz := h.bel.size
  exact ⟨L', v', h1, h.bel.trans (h2.below hz fun k hk hm => by have := h.new k hm; omega), fun k hk => (h3 k hk).elim (h.new k) (fun e => by omega)⟩
theorem WlUp.up {w0 w w' : World} {b : Nat} {D : Dk} {L : Lay} {lb : Nat} {v : Value} {recs : List ByteArray} {torn : Bool} (h : WlUp w0 w b D L lb v recs torn) (hb : Below w.heap.size w w') : WlUp w0 w' b D L lb v recs torn :=
  ⟨h.both.below hb, h.bel.trans (hb.mono h.bel.size), h.new⟩
theorem WlUp.dk {w0 w : World} {b : Nat} {D : Dk} {L : Lay} {lb : Nat} {v : Value} {recs : List ByteArray} {torn : Bool} (h : WlUp w0 w b D L lb v recs torn) : DkUp w0 w b D L := ⟨h.both.dk, h.bel, fun k hk => h.new k (Or.inl hk)⟩

theorem startUp (w : World) : Calls Try.prog 41 #[.int .i64 1048576] w fun e w' => ∃ b L lb v, e = .returned (.tuple #[.pointer (some ⟨b, 0, none⟩), .pointer (some ⟨lb, 0, none⟩)]) ∧ WlUp w w' b (mkL ⟨#[]⟩) L lb v [] false :=
  (start_any w).mono fun _e _w' ⟨b, L, lb, v, he, h1, h2, h3⟩ => ⟨b, L, lb, v, he, h1, h2, h3⟩
theorem mkL_st : LogSt (mkL ⟨#[]⟩) ⟨#[]⟩ [⟨otherData, 9⟩, ⟨⟨#[]⟩, 0⟩] 1 0 none := ⟨rfl, by decide, fun j hj => by simp at hj, by decide, by decide, rfl, rfl⟩

section
variable {w0 w : World} {b : Nat} {D : Dk} {L : Lay} {lb : Nat} {v : Value} {recs : List ByteArray} {l : ByteArray} {files : List Fl} {i o : Nat} {t : Option Nat}
/-- a record more, on a disk that lives and has room -/
theorem addUp (s : ByteArray) (h : WlUp w0 w b D L lb v recs false) (hl : LogSt D l files i o t) (hs : s.size ≤ 5000) (hls : l.size ≤ 890000) (hn : recs.length < 200) (hf : files.length ≤ 400000) :
    Calls Try.prog 45 #[.pointer (some ⟨lb, 0, none⟩), .string s] w fun e w' => e = .returned (.int .i64 0) ∧ ∃ D' L' v' f', WlUp w0 w' b D' L' lb v' (recs ++ [s]) false ∧ LogSt D' (l ++ frame s) f' i o t ∧ f'.length = files.length := by
  obtain ⟨D', f, he, hl', hlen⟩ := hl.add s (by omega)
  have hfl : D.files.length = files.length := by rw [hl.eq]; rfl
  refine (add_any b D L lb v recs s w h.both hs hn ⟨by omega, by rw [hl.eq]; exact Nat.zero_le _⟩).mono fun e w' ⟨h1, h2⟩ => ⟨by rw [h1, he], ?_⟩
  unfold AddPost at h2
  rw [he, if_pos rfl] at h2
  obtain ⟨L', v', hu⟩ := h.post h2
  refine ⟨D', L', v', f, hu, hl', ?_⟩
  have : D'.files.length = f.length := by rw [hl'.eq]; rfl
  omega
theorem resetUp {torn : Bool} (h : WlUp w0 w b D L lb v recs torn) (hl : LogSt D l files i o t) (hls : l.size ≤ 890000) (hf : files.length ≤ 400000) :
    Calls Try.prog 44 #[.pointer (some ⟨lb, 0, none⟩)] w fun e w' => e = .returned (.int .i64 0) ∧ ∃ D' L' v' f' i', WlUp w0 w' b D' L' lb v' [] false ∧ LogSt D' ⟨#[]⟩ f' i' o none ∧ f'.length = files.length + 1 := by
  obtain ⟨he, hl'⟩ := hl.replace [] (by show l.size + 0 ≤ _; omega)
  have hfl : D.files.length = files.length := by rw [hl.eq]; rfl
  refine (reset_any b D L lb v recs torn w h.both ⟨by omega, by rw [hl.eq]; exact Nat.zero_le _⟩).mono fun e w' ⟨h1, h2⟩ => ⟨by rw [h1, he], ?_⟩
  unfold ResetPost at h2
  rw [he, if_pos rfl, if_pos rfl] at h2
  obtain ⟨L', v', hu⟩ := h.post h2
  exact ⟨_, L', v', _, _, hu, hl', by simp⟩
theorem LogSt.folder (hl : LogSt D l files i o t) : D.folder = fold i o t := by rw [hl.eq]; rfl
theorem LogSt.dead (hl : LogSt D l files i o t) : D.dead = false := by rw [hl.eq]; rfl
theorem LogSt.names (hl : LogSt D l files i o t) : 2 ≤ (kvNames D.folder).length ∧ (kvNames D.folder).length ≤ 3 := by
  rw [hl.folder, fold_names]
  cases t <;> simp
theorem othersUp (h : DkUp w0 w b D L) (hl : LogSt D l files i o t) :
    Calls Try.prog 46 #[.pointer (some ⟨b, 0, none⟩)] w fun e w' => e = .returned (.bool true) ∧ Below w.heap.size w w' :=
  others_any b D L w h.at' hl.read.2 hl.dead hl.names
end
end Go.Proofs.Ytjdkhainlcalbaa
