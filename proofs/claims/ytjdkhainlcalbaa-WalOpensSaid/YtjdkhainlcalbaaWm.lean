/- Torn frames; the log's calls on an armed disk, and the crash behind them. -/
import Derived.Test.YtjdkhainlcalbaaWl
namespace Go.Proofs.Ytjdkhainlcalbaa
open Go.RowKit Go.Maps

theorem ex_tail (a b : ByteArray) (m : Nat) (h : a.size ≤ m) : (a ++ b).extract 0 m = a ++ b.extract 0 (m - a.size) := by
  apply ByteArray.ext
  simp only [ByteArray.data_extract, ByteArray.data_append]
  have e : a.data.extract 0 m = a.data := by
    apply Array.ext'
    simp
    exact List.take_of_length_le (by simpa using h)
  rw [Array.extract_append, e, Nat.zero_sub]
  rfl
theorem ex_ex (s : ByteArray) (i j : Nat) : (s.extract 0 i).extract 0 j = s.extract 0 (min j i) := by
  apply ByteArray.ext
  simp

/-- a beginning of a frame, not the whole -/
def TailOk (c : ByteArray) : Prop := ∃ s j, s.size ≤ 300 ∧ j < s.size + 8 ∧ c = (frame s).extract 0 j
theorem tail_nil : TailOk ⟨#[]⟩ := ⟨⟨#[]⟩, 0, by decide, by decide, by apply ByteArray.ext; simp⟩
theorem TailOk.size {c : ByteArray} (h : TailOk c) : c.size ≤ 308 := by
  obtain ⟨s, j, h1, h2, rfl⟩ := h
  rw [ByteArray.size_extract]; omega
theorem TailOk.cut {c : ByteArray} (h : TailOk c) (m : Nat) : TailOk (c.extract 0 m) := by
  obtain ⟨s, j, h1, h2, rfl⟩ := h
  exact ⟨s, min m j, h1, by omega, ex_ex _ _ _⟩
theorem recAt_tail (b c : ByteArray) (h : TailOk c) : recAt (b ++ c) b.size = none := by
  obtain ⟨s, j, h1, h2, rfl⟩ := h
  have hf := frame_size s
  have hz : ((frame s).extract 0 j).size = j := by rw [ByteArray.size_extract]; omega
  have hs : (b ++ (frame s).extract 0 j).size = b.size + j := by rw [ByteArray.size_append, hz]
  unfold recAt
  by_cases h8 : j < 8
  · rw [if_pos (by omega)]
  · rw [if_neg (by omega)]
    have z1 := strL_size (putL s.size 4)
    rw [putL_len] at z1
    have e0 : (frame s).extract 0 j = strL (putL s.size 4) ++ (s ++ strL (putL (crcL 0 s.data.toList) 4)).extract 0 (j - 4) := by
      have : frame s = strL (putL s.size 4) ++ (s ++ strL (putL (crcL 0 s.data.toList) 4)) := by simp [frame, ByteArray.append_assoc]
      rw [this, ex_tail _ _ _ (by omega), z1]
    have e1 : (b ++ (frame s).extract 0 j).extract b.size (b.size + 4) = strL (putL s.size 4) := by
      rw [e0, ← ByteArray.append_assoc]; exact ex_mid' _ _ _ _ _ rfl (by rw [z1])
    have g1 : getL (strL (putL s.size 4)).data.toList = s.size := by
      simp only [strL, getL_putL]; omega
    simp only [e1, g1]
    rw [if_pos (by omega)]
theorem frames_cons (x : ByteArray) (r : List ByteArray) : frames (x :: r) = frame x ++ frames r := by
  have hfold : ∀ (l : List ByteArray) (a : ByteArray), l.foldl (fun a r => a ++ frame r) a = a ++ frames l := by
    intro l
    induction l with
    | nil => intro a; simp [frames]; apply ByteArray.ext; simp
    | cons x r ih =>
      intro a
      rw [List.foldl_cons, ih]
      have : frames (x :: r) = frame x ++ frames r := by
        unfold frames
        rw [List.foldl_cons, ih]
        congr 1
      rw [this, ByteArray.append_assoc]
  unfold frames
  rw [List.foldl_cons, hfold]
  congr 1
theorem parseFrom_tail (l : List ByteArray) : ∀ (a c : ByteArray) (f : Nat), TailOk c → (∀ r ∈ l, r.size ≤ 5000) → l.length ≤ f →
    parseFrom (a ++ frames l ++ c) f a.size = (l, (a ++ frames l).size) := by
  induction l with
  | nil =>
    intro a c f hc _ _
    have e : a ++ frames [] = a := by apply ByteArray.ext; simp [frames]
    rw [e]
    cases f with
    | zero => rfl
    | succ f =>
      unfold parseFrom
      rw [recAt_tail a c hc]
  | cons x r ih =>
    intro a c f hc hl hf
    obtain ⟨f, rfl⟩ : ∃ g, f = g + 1 := ⟨f - 1, by simp at hf; omega⟩
    have hx := hl x (by simp)
    unfold parseFrom
    have e : a ++ frames (x :: r) ++ c = a ++ frame x ++ (frames r ++ c) := by rw [frames_cons]; simp [ByteArray.append_assoc]
    rw [e, recAt_frame a x (frames r ++ c) hx]
    have h2 := ih (a ++ frame x) c f hc (fun r hr => hl r (by simp [hr])) (by simp at hf; omega)
    have h3 : a.size + 8 + x.size = (a ++ frame x).size := by rw [ByteArray.size_append, frame_size]; omega
    simp only
    rw [h3, show a ++ frame x ++ (frames r ++ c) = a ++ frame x ++ frames r ++ c by simp [ByteArray.append_assoc], h2, frames_cons, ByteArray.append_assoc]
theorem parse_tail (l : List ByteArray) (c : ByteArray) (hc : TailOk c) (hl : ∀ r ∈ l, r.size ≤ 5000) (hn : l.length ≤ 200) : parse (frames l ++ c) = (l, (frames l).size) := by
  have h := parseFrom_tail l ⟨#[]⟩ c 200 hc hl hn
  have e : (⟨#[]⟩ ++ frames l : ByteArray) = frames l := by apply ByteArray.ext; simp
  rw [e] at h
  exact h

/-- what is left of a record that was being added -/
theorem cut_frames (recs : List ByteArray) (s : ByteArray) (hs : s.size ≤ 300) (m : Nat) (h1 : (frames recs).size ≤ m) (h2 : m ≤ (frames recs ++ frame s).size) :
    ∃ recs' c, (recs' = recs ∨ recs' = recs ++ [s]) ∧ TailOk c ∧ (frames recs ++ frame s).extract 0 m = frames recs' ++ c := by
  have hf := frame_size s
  rw [ByteArray.size_append] at h2
  by_cases h : m = (frames recs).size + (frame s).size
  · refine ⟨recs ++ [s], ⟨#[]⟩, Or.inr rfl, tail_nil, ?_⟩
    rw [h, show (frames recs).size + (frame s).size = (frames recs ++ frame s).size from (ByteArray.size_append ..).symm, extract_all, frames_snoc]
    apply ByteArray.ext; simp
  · exact ⟨recs, _, Or.inl rfl, ⟨s, m - (frames recs).size, hs, by omega, rfl⟩, ex_tail _ _ _ h1⟩

/-- behind a crash the log has such records -/
def CrTo (D : Dk) (X : List ByteArray → Prop) : Prop := ∀ ks, ∃ recs c f i o t, X recs ∧ TailOk c ∧ LogSt (D.crash ks) (frames recs ++ c) f i o t ∧ f.length ≤ 3
theorem CrTo.mono {D : Dk} {X Y : List ByteArray → Prop} (h : CrTo D X) (hX : ∀ r, X r → Y r) : CrTo D Y := fun ks => by
  obtain ⟨recs, c, f, i, o, t, h1, h2, h3, h4⟩ := h ks
  exact ⟨recs, c, f, i, o, t, hX _ h1, h2, h3, h4⟩
theorem CrTo.at' {D : Dk} {X : List ByteArray → Prop} (h : CrTo D X) (a : Int) (d : Bool) : CrTo (D.at' a d) X := fun ks => by rw [crash_at]; exact h ks
theorem app_nil (a : ByteArray) : a ++ ⟨#[]⟩ = a := by apply ByteArray.ext; simp

/-- the steps and the files are few -/
theorem thenOk_small {r : Dk × Int} {f : Dk → Dk × Int} {n m : Nat} (h : r.1.small n) (hf : ∀ D : Dk, D.small n → (f D).1.small m) (hm : n ≤ m) : (thenOk r f).1.small m := by
  unfold thenOk
  split
  · exact hf _ h
  · exact h.mono hm
theorem small_replaceLg {D : Dk} {n : Nat} (h : D.small n) (recs : List ByteArray) : (lgReplace D recs).1.small (n + 4) := by
  unfold lgReplace
  have h1 := small_remove h logTemp
  split
  · exact thenOk_small (small_append h1 _ _) (fun D h2 => thenOk_small (small_sync h2 _) (fun D h3 => thenOk_small (small_rename h3 _ _) (fun D h4 => (small_settle h4).mono (by omega)) (by omega)) (by omega)) (by omega)
  · exact h1.mono (by omega)
theorem small_addLg {D : Dk} {n : Nat} (h : D.small n) (s : ByteArray) : (lgAdd D s).1.small (n + 4) := by
  unfold lgAdd
  exact thenOk_small (small_append h _ _) (fun D h2 => (small_sync h2 _).mono (by omega)) (by omega)

/-- what a call on an armed disk may have done: it is done, or it died -/
def DoneOr (D' : Dk) (e : Int) (want next recs' : List ByteArray) : Prop := (e = 0 ∧ recs' = next ∧ CrTo D' (· = next)) ∨ (e = 10 ∧ CrTo D' (fun r => r = want ∨ r = next))

section
variable {files : List Fl} {i o : Nat} {t : Option Nat} {recs : List ByteArray} {c : ByteArray}
theorem replace_or {next : List ByteArray} {n : Nat} (h : LogSn (stD files i o t) (frames recs ++ c) n files i o t) (hc : TailOk c) (hn : (frames recs).size ≤ n) (hs : (frames recs ++ c).size + (frames next).size ≤ 100000) (a : Int) (ha : -1 ≤ a) (recs' : List ByteArray) :
    DoneOr (lgReplace ((stD files i o t).at' a false) next).1 (lgReplace ((stD files i o t).at' a false) next).2 recs next (if (lgReplace ((stD files i o t).at' a false) next).2 = 0 then next else recs') := by
  rcases replace_arm h next (by omega) a ha with ⟨a', _, e⟩ | ⟨q, hq, e⟩
  · rw [e]
    refine Or.inl ⟨rfl, if_pos rfl, fun ks => ?_⟩
    obtain ⟨f, i2, o2, t2, h1, h2⟩ := crash_new h (frames next) ks
    exact ⟨next, ⟨#[]⟩, f, i2, o2, t2, rfl, tail_nil, by rw [crash_at, app_nil]; exact h1, h2⟩
  · rw [e]
    refine Or.inr ⟨rfl, fun ks => ?_⟩
    obtain ⟨f, i2, o2, t2, h1, h2⟩ := crash_rp h (frames next) (by omega) q hq ks
    rcases h1 with ⟨m, m1, m2, h1⟩ | h1
    · rw [ex_tail _ _ _ (by omega)] at h1
      exact ⟨recs, _, f, i2, o2, t2, Or.inl rfl, hc.cut _, by rw [crash_at]; exact h1, h2⟩
    · exact ⟨next, ⟨#[]⟩, f, i2, o2, t2, Or.inr rfl, tail_nil, by rw [crash_at, app_nil]; exact h1, h2⟩
theorem add_or {s : ByteArray} (h : LogSn (stD files i o t) (frames recs) (frames recs).size files i o t) (hz : s.size ≤ 300) (hs : (frames recs).size ≤ 100000) (a : Int) (ha : -1 ≤ a) (recs' : List ByteArray) :
    DoneOr (lgAdd ((stD files i o t).at' a false) s).1 (lgAdd ((stD files i o t).at' a false) s).2 recs (recs ++ [s]) (if (lgAdd ((stD files i o t).at' a false) s).2 = 0 then recs ++ [s] else recs') := by
  rcases add_arm h s (by omega) a ha with ⟨a', _, e⟩ | ⟨q, hq, e⟩
  · rw [e]
    refine Or.inl ⟨rfl, if_pos rfl, fun ks => ?_⟩
    obtain ⟨m, f, i2, o2, t2, h1, h2, h3, h4⟩ := crash_sn (addD_sn h s _ (Nat.le_refl _)) ks
    have : m = (frames recs ++ frame s).size := by omega
    subst this
    rw [extract_all] at h3
    exact ⟨recs ++ [s], ⟨#[]⟩, f, i2, o2, t2, rfl, tail_nil, by rw [crash_at, app_nil, frames_snoc]; exact h3, h4⟩
  · rw [e]
    refine Or.inr ⟨rfl, fun ks => ?_⟩
    rcases hq with rfl | rfl
    · obtain ⟨m, f, i2, o2, t2, h1, h2, h3, h4⟩ := crash_sn h ks
      have : m = (frames recs).size := by omega
      subst this
      rw [extract_all] at h3
      exact ⟨recs, ⟨#[]⟩, f, i2, o2, t2, Or.inl rfl, tail_nil, by rw [crash_at, app_nil]; exact h3, h4⟩
    · obtain ⟨m, f, i2, o2, t2, h1, h2, h3, h4⟩ := crash_sn (addD_sn h s (frames recs).size (by rw [ByteArray.size_append]; omega)) ks
      obtain ⟨r2, c2, g1, g2, g3⟩ := cut_frames recs s hz m h1 h2
      rw [g3] at h3
      exact ⟨r2, c2, f, i2, o2, t2, g1, g2, by rw [crash_at]; exact h3, h4⟩
end

/-- a row of the law's own, apart from the log and its disk -/
structure RowOff (w0 w : World) (b : Nat) (L : Lay) (lb : Nat) (v : Value) (vw : Value) (want : List ByteArray) : Prop where
  row : w.ownsRow w0.heap.size 9 1 vw want.length (want.map .string)
  off : ∀ q, vw.ownBlock = some q → ¬ bothFoot b L lb v q
section
variable {w0 w w' : World} {b : Nat} {D D' : Dk} {L L' : Lay} {lb : Nat} {v v' vw : Value} {recs recs' want : List ByteArray} {torn torn' : Bool} {c : ByteArray} {files : List Fl} {i o : Nat} {t : Option Nat}
theorem RowOff.rd (h : RowOff w0 w b L lb v vw want) : RowStr w vw want := RowStr.of (ownsRow_base h.row (Nat.zero_le _))
theorem RowOff.post (h : RowOff w0 w b L lb v vw want) (h2 : Touch (bothFoot b L lb v) w w') (h3 : ∀ k, bothFoot b L' lb v' k → bothFoot b L lb v k ∨ w.heap.size ≤ k) : RowOff w0 w' b L' lb v' vw want := by
  refine ⟨ownsRow_keep h.row (fun q hq => h2.block q (ownsRow_lt h.row hq).2 (h.off q hq)), fun q hq hf => ?_⟩
  rcases h3 q hf with h4 | h4
  · exact h.off q hq h4
  · have := (ownsRow_lt h.row hq).2; omega
theorem RowOff.bel (h : RowOff w0 w b L lb v vw want) (hb : Below w.heap.size w w') : RowOff w0 w' b L lb v vw want :=
  ⟨ownsRow_keep h.row (fun q hq => hb.block q (ownsRow_lt h.row hq).2), h.off⟩
/-- another row has grown -/
theorem RowOff.beside (h : RowOff w0 w b L lb v vw want) {r : Option Nat} (hg : w.grownBy w' r) (hne : ∀ q, vw.ownBlock = some q → r ≠ some q) : RowOff w0 w' b L lb v vw want :=
  ⟨ownsRow_keep h.row (fun q hq => hg.block q (ownsRow_lt h.row hq).2 (fun e => hne q hq e.symm)), h.off⟩
theorem RowOff.new (h : WlUp w0 w b D L lb v recs torn) {w1 : World} {v2 : Value} {want2 : List ByteArray} (ho : w1.ownsRow w.heap.size 9 1 v2 want2.length (want2.map .string)) : RowOff w0 w1 b L lb v v2 want2 := by
  refine ⟨ownsRow_base ho h.bel.size, fun q hq hf => ?_⟩
  have := (ownsRow_lt ho hq).1
  have := h.bothLt q hf
  omega
theorem WlUp.post1 (h : WlUp w0 w b D L lb v recs torn) (h1 : Both w' b D' L' lb v' recs' torn') (h2 : Touch (bothFoot b L lb v) w w') (h3 : ∀ k, bothFoot b L' lb v' k → bothFoot b L lb v k ∨ w.heap.size ≤ k) : WlUp w0 w' b D' L' lb v' recs' torn' := by
  have hz := h.bel.size
  exact ⟨h1, h.bel.trans (h2.below hz fun k hk hm => by have := h.new k hm; omega), fun k hk => (h3 k hk).elim (h.new k) (fun e => by omega)⟩
/-- a row of the law's own has grown -/
theorem WlUp.beside (h : WlUp w0 w b D L lb v recs torn) {r : Option Nat} (hg : w.grownBy w' r) (hr : ∀ q, r = some q → ¬ bothFoot b L lb v q) (hb : Below w0.heap.size w0 w') : WlUp w0 w' b D L lb v recs torn := by
  have hk : ∀ k, bothFoot b L lb v k → w'.heap[k]? = w.heap[k]? := fun k hk => hg.block k (h.bothLt k hk) (fun e => hr k e.symm hk)
  exact ⟨⟨h.both.dk.keepB fun k hm => hk k (Or.inl hm), h.both.lg.keepB fun k hm => hk k (Or.inr hm), h.both.sep⟩, hb, h.new⟩

theorem armPost (n : Int) (h : WlUp w0 w b D L lb v recs torn) (hn : n ≤ 9223372036854775807) :
    Calls Try.prog 34 #[.pointer (some ⟨b, 0, none⟩), .int .i64 n] w fun e w' => e = .returned (.tuple #[]) ∧ WlPost b L lb v (D.armed n) recs torn w w' :=
  (arm_any b D L n w h.both.dk hn).mono fun _e _w' ⟨h1, h2⟩ => ⟨h1, h.both.dkPost h2⟩
theorem crashPost (ks : List Int) (kv : Value) (h : WlUp w0 w b D L lb v recs torn) (hv : RowInt w kv ks) (hk : KeepsOk ks) (hsm : D.small 400000) :
    Calls Try.prog 32 #[.pointer (some ⟨b, 0, none⟩), kv] w fun e w' => e = .returned (.tuple #[]) ∧ WlPost b L lb v (D.crash ks) recs torn w w' :=
  (crash_any b D L ks kv w h.both.dk hv hk.1 hk.2 hsm.2 hsm.1).mono fun _e _w' ⟨h1, h2⟩ => ⟨h1, h.both.dkPost h2⟩
/-- what a call of the log's on an armed disk leaves -/
def CallPost (b : Nat) (L : Lay) (lb : Nat) (v : Value) (want next : List ByteArray) (w : World) (e : Ending) (w' : World) : Prop :=
  ∃ D' recs' torn' ei, e = .returned (.int .i64 ei) ∧ WlPost b L lb v D' recs' torn' w w' ∧ DoneOr D' ei want next recs' ∧ D'.small 1000
theorem armed_st (hl : LogSt D (frames recs ++ c) files i o t) (n : Int) : D.armed n = (stD files i o t).at' (max n (-1)) false ∧ D.small files.length := by
  rw [hl.eq]; exact ⟨rfl, Nat.le_refl _, Nat.zero_le _⟩
theorem small_armed {n : Nat} (h : D.small n) (a : Int) : (D.armed a).small n := h
theorem resetArm (n : Int) (h : WlUp w0 w b (D.armed n) L lb v recs torn) (hl : LogSt D (frames recs ++ c) files i o t) (hc : TailOk c) (hz : (frames recs ++ c).size ≤ 50000) (hf : files.length ≤ 900) :
    Calls Try.prog 44 #[.pointer (some ⟨lb, 0, none⟩)] w (CallPost b L lb v recs [] w) := by
  obtain ⟨e1, e2⟩ := armed_st hl n
  have hsm := small_replaceLg (small_armed e2 n) []
  refine (reset_any b (D.armed n) L lb v recs torn w h.both (e2.mono (by omega))).mono fun e w' ⟨h1, h2⟩ => ?_
  unfold ResetPost at h2
  have hs := hl.sn
  rw [hl.eq] at hs
  refine ⟨_, _, _, _, h1, h2, ?_, hsm.mono (by omega)⟩
  rw [e1]
  exact replace_or (next := []) hs hc (by rw [ByteArray.size_append]; omega) (by show (frames recs ++ c).size + 0 ≤ _; omega) _ (by omega) _
theorem addArm (n : Int) (s : ByteArray) (h : WlUp w0 w b (D.armed n) L lb v recs (decide (0 < c.size))) (hl : LogSt D (frames recs ++ c) files i o t) (hc : TailOk c) (hs : s.size ≤ 300) (hz : (frames recs).size ≤ 40000) (hr : ∀ r ∈ recs, r.size ≤ 300) (hn : recs.length < 200) (hf : files.length ≤ 900) :
    Calls Try.prog 45 #[.pointer (some ⟨lb, 0, none⟩), .string s] w (CallPost b L lb v recs (recs ++ [s]) w) := by
  obtain ⟨e1, e2⟩ := armed_st hl n
  have hcz := hc.size
  have hfs := frame_size s
  have hsn := hl.sn
  rw [hl.eq] at hsn
  by_cases h0 : 0 < c.size
  · have hzz : (frames (recs ++ [s])).size ≤ 41000 := by rw [frames_snoc, ByteArray.size_append]; omega
    have hsm := small_replaceLg (small_armed e2 n) (recs ++ [s])
    rw [decide_eq_true h0] at h
    refine (add_torn b (D.armed n) L lb v recs s w h.both (by omega) hn (by omega) (fun r hm => by have := hr r hm; omega) (e2.mono (by omega))).mono fun e w' ⟨h1, h2⟩ => ?_
    unfold AddTPost at h2
    refine ⟨_, _, _, _, h1, h2, ?_, hsm.mono (by omega)⟩
    rw [e1]
    exact replace_or hsn hc (by rw [ByteArray.size_append]; omega) (by rw [ByteArray.size_append]; omega) _ (by omega) _
  · have hsm := small_addLg (small_armed e2 n) s
    rw [decide_eq_false h0] at h
    have hc0 : c = ⟨#[]⟩ := by
      apply ByteArray.ext
      apply Array.eq_empty_of_size_eq_zero
      simp only [ByteArray.size] at h0; omega
    rw [hc0, app_nil] at hsn
    refine (add_any b (D.armed n) L lb v recs s w h.both (by omega) hn (e2.mono (by omega))).mono fun e w' ⟨h1, h2⟩ => ?_
    unfold AddPost at h2
    refine ⟨_, _, _, _, h1, h2, ?_, hsm.mono (by omega)⟩
    rw [e1]
    exact add_or hsn hs (by omega) _ (by omega) _
/-- the log opened behind a crash: another object -/
theorem openTail (h : WlUp w0 w b D L lb v want torn) {rs : List ByteArray} (hl : LogSt D (frames rs ++ c) files i o t) (hc : TailOk c) (hr : ∀ r ∈ rs, r.size ≤ 300) (hn : rs.length ≤ 200) :
    Calls Try.prog 47 #[.pointer (some ⟨b, 0, none⟩)] w fun e w' => ∃ lb2 v2, e = .returned (.tuple #[.pointer (some ⟨lb2, 0, none⟩), .int .i64 0]) ∧
      WlUp w0 w' b D L lb2 v2 rs (decide (0 < c.size)) ∧ Below w.heap.size w w' ∧ ∀ k, bothFoot b L lb2 v2 k → bothFoot b L lb v k ∨ w.heap.size ≤ k := by
  have hr2 := hl.read.1
  refine (open_any b D L w h.both.dk (by rw [hr2])).mono fun e w' ⟨lb2, v2, he, h1, h2, h3⟩ => ?_
  rw [hr2, parse_tail rs c hc (fun r hm => by have := hr r hm; omega) hn] at h1
  have e1 : decide ((rs, (frames rs).size).2 < (frames rs ++ c).size) = decide (0 < c.size) := by
    rw [ByteArray.size_append]; simp
  rw [e1] at h1
  refine ⟨lb2, v2, he, ⟨⟨h.both.dk.below h2, h1, fun k hk hf => ?_⟩, h.bel.trans (h2.mono h.bel.size), fun k hk => ?_⟩, h2, fun k hk => hk.elim (fun hk => Or.inl (Or.inl hk)) (fun hk => Or.inr (h3 k hk))⟩
  · have := h3 k hk
    have := h.both.dk.flt k hf
    omega
  · rcases hk with hk | hk
    · exact h.new k (Or.inl hk)
    · have := h3 k hk
      have := h.bel.size
      omega
theorem RowOff.open {lb2 : Nat} {v2 : Value} (h : RowOff w0 w b L lb v vw want) (hb : Below w.heap.size w w') (h3 : ∀ k, bothFoot b L lb2 v2 k → bothFoot b L lb v k ∨ w.heap.size ≤ k) : RowOff w0 w' b L lb2 v2 vw want := by
  refine ⟨ownsRow_keep h.row (fun q hq => hb.block q (ownsRow_lt h.row hq).2), fun q hq hf => ?_⟩
  rcases h3 q hf with h4 | h4
  · exact h.off q hq h4
  · have := (ownsRow_lt h.row hq).2; omega
end
end Go.Proofs.Ytjdkhainlcalbaa
