/- A log's file of which the end is not safe: read, appended to, replaced. -/
import Derived.Test.YtjdkhainlcalbaaLawCrashes
namespace Go.Proofs.Ytjdkhainlcalbaa
open Go.RowKit Go.Maps

/-- append(v, x) of one element, under a guard that says yes -/
theorem wpList_app1g {P : Program} {w : World} {ops : Array Oper} {rest : List Oper} {o : Oper} {a : Act} {Q : Exit → Act → World → Prop} (hw : Region.wanted o (yielded ops a.tmps) = true) (s x : Operand) (t : TypeId)
    (ho : o.op = .call { callee := .builtin .append, args := #[s, x], argTypes := #[t, t] })
    (base : Nat) (e : TypeId) {z : Value} {size bytes : Nat} (ht : P.underlying t = some (.slice e))
    (hinfo : (P.info? e).map (fun i => (i.zero, i.size, i.bytes)) = some (some z, size, bytes)) (hzs : z.cells.size = size) (hsz : 0 < size)
    (v : Value) (n : Nat) (xs : List Value) (hs : a.eval s = v) (hown : w.ownsRow base e size v n xs)
    (cs : Array Value) (hx : a.eval x = .slice (some ⟨w.heap.size, 0, none⟩) 1 1) (hl : cs.size = size) (h1 : ∀ u ∈ cs.toList, u.oneCell' = true)
    (hbytes : (n + 1) * bytes ≤ 140737488355328) (h63 : n + 1 ≤ 140737488355328) (hbase : base ≤ w.heap.size)
    (h : ∀ g cap w', w'.ownsRow base e size (.slice (some ⟨g, 0, none⟩) (n + 1) cap) (n + 1) (xs ++ cs.toList) → w.grownBy w' v.ownBlock → Below base w w' → (v.ownBlock = some g ∨ g = w.heap.size + 1) → wpList P ops Q rest (a.put o.dst (.slice (some ⟨g, 0, none⟩) (n + 1) cap)) w') :
    wpList P ops Q (o :: rest) a (w.alloc (.cells cs e)) := by
  obtain ⟨i0, hi, hz0, hz1, hz2⟩ := info_parts hinfo
  unfold wpList
  rw [if_pos hw]
  refine Or.inl (wp_append_lies _ s x t ho base e i0 z size bytes ht hi hz0 hz1 hz2 hzs hsz v n xs hs (hown.alloc _) ⟨w.heap.size, 0, none⟩ 1 1 cs.toList hx (by simp [hl]) (World.news_of_block (heap_alloc_new w _)) h1 (by decide) (by unfold maxLen; omega) hbytes (by simp; omega) (w.heap.size + 1) (by simp) ?_)
  intro g cap w' h2 h3 h4 h5
  have hgr : w.grownBy w' v.ownBlock := (World.grownBy_alloc w _ _).trans h3
  exact h g cap w' h2 hgr (below_grown (Below.refl base w) hbase hown hgr) h4

section
variable {D : Dk} {l : ByteArray} {n : Nat} {files : List Fl} {i o : Nat} {t : Option Nat}
theorem LogSn.read (h : LogSn D l n files i o t) : D.read logName = (l, 0) ∧ D.read otherName = (otherData, 0) := by
  have hl := h.log
  have ho := h.oth
  rw [h.eq] at hl ho
  rw [h.eq]
  constructor
  · unfold Dk.read
    rw [if_neg (by simp [stD]), show (stD files i o t).folder = fold i o t from rfl, fold_log]
    show (((stD files i o t).flAt i).data, (0 : Int)) = _
    rw [hl]
  · unfold Dk.read
    rw [if_neg (by simp [stD]), show (stD files i o t).folder = fold i o t from rfl, fold_other]
    show (((stD files i o t).flAt o).data, (0 : Int)) = _
    rw [ho]
theorem LogSn.used (h : LogSn D l n files i o t) : D.used ≤ l.size + 100009 := by
  have e : D.used = (D.flAt i).data.size + (t.elim 0 (fun j => (D.flAt j).data.size) + (D.flAt o).data.size) := by
    rw [h.eq]; exact fold_sum _ i o t
  rw [e, h.log, h.oth]
  have h9 : otherData.size = 9 := rfl
  cases t with
  | none => simp [h9] <;> omega
  | some j => have := (h.ti j rfl).2.2.2; simp [h9] <;> omega
theorem LogSn.append (h : LogSn D l n files i o t) (data : ByteArray) (hs : l.size + data.size ≤ 900000) :
    ∃ D' f, D.append logName data = (D', 0) ∧ LogSn D' (l ++ data) n f i o t ∧ f.length = files.length := by
  have hu := h.used
  have hal : D.alive = D := alive_id (by rw [h.eq]; rfl) (by rw [h.eq]; rfl)
  have hi : i < D.files.length := by rw [h.eq]; exact h.il
  have hn := h.nl
  refine ⟨_, files.set i ⟨l ++ data, n⟩, ?_, ⟨rfl, h.io, ?_, by simpa using h.il, by simpa using h.ol, ?_, ?_, by rw [ByteArray.size_append]; omega⟩, by simp⟩
  · unfold Dk.append
    rw [hal, if_neg (by rw [h.eq]; simp [stD]), if_neg (by decide +kernel), if_neg (by rw [show D.room = 1048576 by rw [h.eq]; rfl]; omega)]
    unfold Dk.put
    rw [show kvGet D.folder logName = some i by rw [h.eq]; exact fold_log i o t]
    dsimp only
    rw [h.log, h.eq]; rfl
  · intro j hj
    obtain ⟨h1, h2, h3, h4⟩ := h.ti j hj
    refine ⟨h1, h2, by simpa using h3, ?_⟩
    rw [h.eq] at h4
    rw [show (stD (files.set i ⟨l ++ data, n⟩) i o t).flAt j = (stD files i o t).flAt j from flAt_set_other (D := stD files i o t) _ (Ne.symm h1)]
    exact h4
  · exact flAt_set_same (D := stD files i o t) _ h.il
  · have ho := h.oth
    rw [h.eq] at ho
    exact (flAt_set_other (D := stD files i o t) _ h.io).trans ho
theorem LogSn.replace (h : LogSn D l n files i o t) (recs : List ByteArray) (hs : l.size + (frames recs).size ≤ 900000) :
    lgReplace D recs = (stD (files ++ [⟨frames recs, (frames recs).size⟩]) files.length o none, 0) ∧
      LogSt (stD (files ++ [⟨frames recs, (frames recs).size⟩]) files.length o none) (frames recs) (files ++ [⟨frames recs, (frames recs).size⟩]) files.length o none := by
  have hl := h.log
  have ho := h.oth
  rw [h.eq] at hl ho
  have h9 : otherData.size = 9 := rfl
  constructor
  · unfold lgReplace
    rw [h.eq, rp_1]
    rw [if_pos (by cases t <;> simp)]
    dsimp only
    rw [rp_2 _ _ _ _ _ (by rw [hl, ho]; simp only [h9]; omega), thenOk_ok rfl]
    dsimp only
    rw [rp_3, thenOk_ok rfl]
    dsimp only
    rw [rp_4, thenOk_ok rfl]
    exact rp_5 _ _ _ _ _
  · refine ⟨rfl, by have := h.ol; omega, fun j hj => by simp at hj, by simp, by have := h.ol; simp; omega, ?_, ?_⟩
    · simp [Dk.flAt, stD, List.getD]
    · have := h.ol
      rw [← ho]
      simp [Dk.flAt, stD, List.getD, List.getElem?_append_left this]
end

section
variable {w0 w w' : World} {b : Nat} {D D' : Dk} {L L' : Lay} {lb : Nat} {v v' vw : Value} {recs recs' want : List ByteArray} {torn torn' : Bool} {c : ByteArray} {n : Nat} {files : List Fl} {i o : Nat} {t : Option Nat}
/-- the log opened, whatever is safe of it: another object -/
theorem openAt (h : WlUp w0 w b D L lb v want torn) {rs : List ByteArray} (hr2 : D.read logName = (frames rs ++ c, 0)) (hc : TailOk c) (hr : ∀ r ∈ rs, r.size ≤ 300) (hn : rs.length ≤ 200) :
    Calls Try.prog 47 #[.pointer (some ⟨b, 0, none⟩)] w fun e w' => ∃ lb2 v2, e = .returned (.tuple #[.pointer (some ⟨lb2, 0, none⟩), .int .i64 0]) ∧
      WlUp w0 w' b D L lb2 v2 rs (decide (0 < c.size)) ∧ Below w.heap.size w w' ∧ ∀ k, bothFoot b L lb2 v2 k → bothFoot b L lb v k ∨ w.heap.size ≤ k := by
  refine (open_any b D L w h.both.dk (by rw [hr2])).mono fun e w' ⟨lb2, v2, he, h1, h2, h3⟩ => ?_
  rw [hr2, parse_tail rs c hc (fun r hm => by have := hr r hm; omega) hn] at h1
  have e1 : decide ((rs, (frames rs).size).2 < (frames rs ++ c).size) = decide (0 < c.size) := by
    rw [ByteArray.size_append]; simp
  rw [e1] at h1
  refine ⟨lb2, v2, he, ⟨⟨h.both.dk.below h2, h1, fun k hk hf => ?_⟩, h.bel.trans (h2.mono h.bel.size), fun k hk => ?_⟩, h2, fun k hk => hk.elim (fun hk => Or.inl (Or.inl hk)) (fun hk => Or.inr (h3 k hk))⟩
  · have := h3 k hk
    have := h.both.dk.flt k hf
    omega
  · rcases hk with hk | hk
    · exact h.new k (Or.inl hk)
    · have := h3 k hk
      have := h.bel.size
      omega
theorem appendPost (name data : ByteArray) (h : WlUp w0 w b D L lb v recs torn) (hs : name.size ≤ 9223372036854775807) (hds : data.size ≤ 9223372036854775807) (hsm : D.small 400000) :
    Calls Try.prog 26 #[.pointer (some ⟨b, 0, none⟩), .string name, .string data] w fun e w' => e = .returned (.int .i64 (D.append name data).2) ∧ WlPost b L lb v (D.append name data).1 recs torn w w' :=
  (append_any b D L name data w h.both.dk hs hds (Nat.le_trans hsm.1 (by decide)) (Nat.le_trans hsm.2 (by decide))).mono fun _e _w' ⟨h1, h2⟩ => ⟨h1, h.both.dkPost h2⟩
theorem LogSn.small (h : LogSn D (frames recs ++ c) n files i o t) : D.small files.length := by rw [h.eq]; exact ⟨Nat.le_refl _, Nat.zero_le _⟩
theorem LogSn.small' {l : ByteArray} (h : LogSn D l n files i o t) : D.small files.length := by rw [h.eq]; exact ⟨Nat.le_refl _, Nat.zero_le _⟩
theorem armed_crash (D : Dk) (a : Int) (ks : List Int) : ((D.armed a).armed (-1)).crash ks = D.crash ks := by
  have e : (D.armed a).armed (-1) = D.at' (-1) D.dead := rfl
  rw [e]
  exact crash_at D (-1) D.dead ks
/-- crashed, the records stay -/
theorem crash_keep (h : LogSn D (frames recs ++ c) n files i o t) (hc : TailOk c) (hn : (frames recs).size ≤ n) (ks : List Int) :
    ∃ c2 f i2 o2 t2, TailOk c2 ∧ LogSt (D.crash ks) (frames recs ++ c2) f i2 o2 t2 ∧ f.length ≤ 3 := by
  obtain ⟨m, f, i2, o2, t2, h1, _, h3, h4⟩ := crash_sn h ks
  rw [ex_tail _ _ _ (by omega)] at h3
  exact ⟨_, f, i2, o2, t2, hc.cut _, h3, h4⟩
theorem othersSn (h : WlUp w0 w b D L lb v recs torn) (hl : LogSn D (frames recs' ++ c) n files i o t) :
    Calls Try.prog 46 #[.pointer (some ⟨b, 0, none⟩)] w fun e w' => e = .returned (.bool true) ∧ Below w.heap.size w w' := by
  have hf : D.folder = fold i o t := by rw [hl.eq]; rfl
  exact others_any b D L w h.both.dk hl.read.2 (by rw [hl.eq]; rfl) (by rw [hf, fold_names]; cases t <;> simp)
/-- a record more, whatever stands behind the whole ones -/
theorem addSn (s : ByteArray) (h : WlUp w0 w b D L lb v recs (decide (0 < c.size))) (hl : LogSn D (frames recs ++ c) n files i o t) (hc : TailOk c) (hn0 : (frames recs).size ≤ n) (hs : s.size ≤ 300) (hz : (frames recs).size ≤ 40000) (hr : ∀ r ∈ recs, r.size ≤ 300) (hn : recs.length < 200) (hf : files.length ≤ 900) :
    Calls Try.prog 45 #[.pointer (some ⟨lb, 0, none⟩), .string s] w fun e w' => ∃ D' f i2 o2 t2, e = .returned (.int .i64 0) ∧ WlPost b L lb v D' (recs ++ [s]) false w w' ∧ LogSt D' (frames (recs ++ [s])) f i2 o2 t2 := by
  have hcz := hc.size
  have hfs := frame_size s
  have hsm := hl.small
  have hzz : (frames (recs ++ [s])).size ≤ 41000 := by rw [frames_snoc, ByteArray.size_append]; omega
  by_cases h0 : 0 < c.size
  · rw [decide_eq_true h0] at h
    obtain ⟨he, hl'⟩ := hl.replace (recs ++ [s]) (by rw [ByteArray.size_append]; omega)
    refine (add_torn b D L lb v recs s w h.both (by omega) hn (by omega) (fun r hm => by have := hr r hm; omega) (hsm.mono (by omega))).mono fun e w' ⟨h1, h2⟩ => ?_
    unfold AddTPost at h2
    rw [he] at h1 h2
    exact ⟨_, _, _, _, _, h1, h2, hl'⟩
  · rw [decide_eq_false h0] at h
    have hc0 : c = ⟨#[]⟩ := by
      apply ByteArray.ext
      apply Array.eq_empty_of_size_eq_zero
      simp only [ByteArray.size] at h0; omega
    subst hc0
    rw [app_nil] at hl
    have hnn : n = (frames recs).size := by have := hl.nl; omega
    subst hnn
    have hst : LogSt D (frames recs) files i o t := ⟨hl.eq, hl.io, hl.ti, hl.il, hl.ol, hl.log, hl.oth⟩
    obtain ⟨D', f, he, hl', _⟩ := hst.add s (by omega)
    rw [← frames_snoc] at hl'
    refine (add_any b D L lb v recs s w h.both (by omega) hn (hsm.mono (by omega))).mono fun e w' ⟨h1, h2⟩ => ?_
    unfold AddPost at h2
    rw [he] at h1 h2
    exact ⟨_, _, _, _, _, h1, h2, hl'⟩
end
end Go.Proofs.Ytjdkhainlcalbaa
