/- The log: opened, asked for its records. -/
import Derived.Test.YtjdkhainlcalbaaWb
import Derived.Laws.AppendOwnNone
namespace Go.Proofs.Ytjdkhainlcalbaa
open Go.RowKit Go.Maps

/-- append(v, x...), v the call's own (or nil), x a row that is known: nil too -/
theorem wpList_appRow {P : Program} {w : World} {ops : Array Oper} {rest : List Oper} {o : Oper} {a : Act} {Q : Exit → Act → World → Prop} (hgd : o.guard = none) (s x : Operand) (t : TypeId)
    (ho : o.op = .call { callee := .builtin .append, args := #[s, x], argTypes := #[t, t] })
    (base : Nat) (e : TypeId) {z : Value} {size bytes : Nat} (ht : P.underlying t = some (.slice e))
    (hinfo : (P.info? e).map (fun i => (i.zero, i.size, i.bytes)) = some (some z, size, bytes)) (hzs : z.cells.size = size) (hsz : 0 < size)
    (v : Value) (n : Nat) (xs : List Value) (hs : a.eval s = v) (hown : w.ownsRow base e size v n xs)
    (u : Value) (m base2 : Nat) (ys : List Value) (hx : a.eval x = u) (hsrc : w.ownsRow base2 e size u m ys) (h1 : ∀ y ∈ ys, y.oneCell' = true)
    (hbytes : (n + m) * bytes ≤ 140737488355328) (h63 : n + m ≤ 140737488355328) (hbase : base ≤ w.heap.size)
    (h : ∀ v' w', w'.ownsRow base e size v' (n + m) (xs ++ ys) → w.grownBy w' v.ownBlock → (v'.ownBlock = v.ownBlock ∨ v'.ownBlock = some w.heap.size) → (∃ ad cp, v' = .slice ad (n + m) cp) → wpList P ops Q rest (a.put o.dst v') w') :
    wpList P ops Q (o :: rest) a w := by
  obtain ⟨i0, hi, hz0, hz1, hz2⟩ := info_parts hinfo
  have hshape : ∀ {w : World} {v' : Value} {n : Nat} {xs : List Value}, w.ownsRow base e size v' n xs → ∃ ad cp, v' = .slice ad n cp := by
    intro w v' n xs h
    rcases h.2 with ⟨h1, h2⟩ | ⟨g, cap, _, hv, _⟩
    · subst h2; exact ⟨none, 0, h1⟩
    · exact ⟨_, _, hv⟩
  rcases hsrc.2 with ⟨hu, hm⟩ | ⟨g, cap, cur, hu, hg, hh, h4, h5, h6, h7⟩
  · subst hu hm
    have hy : ys = [] := List.length_eq_zero_iff.1 (by simpa using hsrc.1)
    subst hy
    refine wpList_append_own_none hgd s x t ho base e i0 size ht hi v n xs hs hown hx ?_
    refine h v w (by simpa using hown) ⟨rfl, rfl, rfl, Nat.le_refl _, fun _ _ _ => rfl⟩ (Or.inl rfl) (by simpa using hshape hown)
  · subst hu
    refine wpList_append_own_at _ hgd s x t ho base e i0 z size bytes ht hi hz0 hz1 hz2 hzs hsz v n xs hs hown ⟨g, 0, none⟩ m cap ys hx hsrc.1 ?_ h1 (by unfold maxLen; omega) hbytes hbase ?_
    · intro j y hj
      have hadd : (⟨g, 0, none⟩ : Addr).add j = ⟨g, j, none⟩ := by unfold Addr.add; split <;> simp_all
      rw [hadd]
      simp only [World.cell?, hh]
      rw [← h7] at hj
      have hj' : j < m * size := by
        have := (List.getElem?_eq_some_iff.1 hj).1
        simp at this; omega
      rw [List.getElem?_take, if_pos hj'] at hj
      simpa using hj
    · intro v' w' a1 a2 _ a4
      exact h v' w' a1 a2 a4 (hshape a1)

/-- the log lies there -/
structure LgAt (w : World) (lb b : Nat) (v : Value) (recs : List ByteArray) (torn : Bool) : Prop where
  blk : BlockIs w lb #[ptrV b, v, .bool torn] 140
  row : w.ownsRow 0 9 1 v recs.length (recs.map .string)
def lgFoot (lb : Nat) (v : Value) : List Nat := lb :: v.ownBlock.toList
theorem LgAt.flt {w : World} {lb b : Nat} {v : Value} {recs : List ByteArray} {torn : Bool} (h : LgAt w lb b v recs torn) : ∀ k ∈ lgFoot lb v, k < w.heap.size := by
  intro k hk
  simp only [lgFoot, List.mem_cons, Option.mem_toList] at hk
  rcases hk with rfl | hk
  · exact h.blk.lt
  · exact (ownsRow_lt h.row hk).2
theorem LgAt.keepB {w w' : World} {lb b : Nat} {v : Value} {recs : List ByteArray} {torn : Bool} (h : LgAt w lb b v recs torn) (hk : ∀ k ∈ lgFoot lb v, w'.heap[k]? = w.heap[k]?) : LgAt w' lb b v recs torn :=
  ⟨h.blk.keep (hk _ (by simp [lgFoot])), ownsRow_keep h.row fun k hv => hk k (by simp [lgFoot, hv])⟩
theorem LgAt.below {w w' : World} {lb b : Nat} {v : Value} {recs : List ByteArray} {torn : Bool} (h : LgAt w lb b v recs torn) (ht : Below w.heap.size w w') : LgAt w' lb b v recs torn :=
  h.keepB fun k hk => ht.block k (h.flt k hk)
theorem LgAt.keep {w w' : World} {lb b : Nat} {v : Value} {recs : List ByteArray} {torn : Bool} {G : Nat → Prop} (h : LgAt w lb b v recs torn) (ht : Touch G w w') (hG : ∀ k ∈ lgFoot lb v, ¬ G k) : LgAt w' lb b v recs torn :=
  h.keepB fun k hk => ht.block k (h.flt k hk) (hG k hk)

theorem ownsRow_base {w : World} {base base2 : Nat} {e : TypeId} {size n : Nat} {v : Value} {xs : List Value} (h : w.ownsRow base e size v n xs) (hb : base2 ≤ base) : w.ownsRow base2 e size v n xs := by
  obtain ⟨h1, h2⟩ := h
  refine ⟨h1, ?_⟩
  rcases h2 with h2 | ⟨g, cap, cur, hv, hg, r⟩
  · exact Or.inl h2
  · exact Or.inr ⟨g, cap, cur, hv, Nat.le_trans hb hg, r⟩

def Dk.open' (D : Dk) : Option (List ByteArray × Bool) := if (D.read logName).2 = 0 then some ((parse (D.read logName).1).1, decide ((parse (D.read logName).1).2 < (D.read logName).1.size)) else none
theorem read_size {D : Dk} (h : DkOk D) (name : ByteArray) : (D.read name).1.size ≤ 1073741824 := by
  unfold Dk.read
  split
  · exact Nat.zero_le _
  · split
    · exact (flAt_le h _).1
    · exact Nat.zero_le _

set_option maxHeartbeats 400000 in
set_option maxRecDepth 100000 in
theorem open_any (b : Nat) (D : Dk) (L : Lay) (w : World) (h : DiskAt w b D L) (he : (D.read logName).2 = 0) :
    Calls Try.prog 47 #[.pointer (some ⟨b, 0, none⟩)] w fun e w' => ∃ lb v, e = .returned (.tuple #[.pointer (some ⟨lb, 0, none⟩), .int .i64 0]) ∧
      LgAt w' lb b v (parse (D.read logName).1).1 (decide ((parse (D.read logName).1).2 < (D.read logName).1.size)) ∧ Below w.heap.size w w' ∧ ∀ k ∈ lgFoot lb v, w.heap.size ≤ k := by
  have hr := read_any b D L logName w h (by decide)
  have hz := read_size h.ok logName
  clear h
  generalize D.read logName = r at *
  obtain ⟨s, e⟩ := r
  simp only at he
  subst he
  simp only at hz ⊢
  have HR := Lib.hid hr
  have HP := Lib.hid (parse_any s w (by omega))
  clear hr
  generalize parse s = pr at *
  obtain ⟨recs, n⟩ := pr
  go_enter Try.func47, Try.ntmps47
  go_wp2_with fail
  refine HR.out.mono ?_
  rintro e w2 ⟨rfl, rfl⟩
  go_wp2_with fail
  refine HP.out.mono ?_
  rintro e w2 ⟨v, rfl, hown, hb⟩
  have HO := Lib.hid hown
  have HB := Lib.hid hb
  clear hown hb
  obtain ⟨ad, cp, rfl⟩ : ∃ ad cp, v = .slice ad recs.length cp := by
    rcases HO.out.2 with ⟨h1, h2⟩ | ⟨g, cap, _, hv, _⟩
    · exact ⟨none, 0, by rw [h1, show recs.length = 0 from h2]⟩
    · exact ⟨_, _, hv⟩
  go_wp2
  go_ret2
  refine ⟨_, _, rfl, ⟨BlockIs.new _ _ _, ?_⟩, HB.out.alloc HB.out.size _, ?_⟩
  · exact ownsRow_base (HO.out.alloc _) (Nat.zero_le _)
  · intro k hk
    simp only [lgFoot, List.mem_cons, Option.mem_toList] at hk
    rcases hk with rfl | hk
    · exact HB.out.size
    · exact (ownsRow_lt HO.out hk).1
theorem open_no (b : Nat) (D : Dk) (L : Lay) (w : World) (h : DiskAt w b D L) (he : (D.read logName).2 ≠ 0) :
    Calls Try.prog 47 #[.pointer (some ⟨b, 0, none⟩)] w fun e w' => e = .returned (.tuple #[.pointer none, .int .i64 (D.read logName).2]) ∧ w = w' := by
  have hr := read_any b D L logName w h (by decide)
  clear h
  generalize D.read logName = r at *
  obtain ⟨s, e⟩ := r
  simp only at he ⊢
  have HR := Lib.hid hr
  have hne : (e != 0) = true := by simpa using he
  clear hr he
  go_enter Try.func47, Try.ntmps47
  go_wp2_with fail
  refine HR.out.mono ?_
  rintro e w2 ⟨rfl, rfl⟩
  go_wp2
  go_ret2
  exact ⟨rfl, rfl⟩

theorem LgAt.ne {w : World} {lb b : Nat} {v : Value} {recs : List ByteArray} {torn : Bool} (h : LgAt w lb b v recs torn) : v.ownBlock ≠ some lb := by
  intro hk
  have h1 := h.blk
  unfold BlockIs at h1
  obtain ⟨_, h2 | ⟨g, cap, cur, hv, hg, hh, _⟩⟩ := h.row
  · rw [h2.1] at hk; simp [Value.ownBlock] at hk
  · rw [hv] at hk
    simp [Value.ownBlock] at hk
    subst hk
    rw [h1] at hh
    simp only [Option.some.injEq, Obj.cells.injEq] at hh
    exact absurd hh.2.1 (by decide)

set_option maxHeartbeats 400000 in
set_option maxRecDepth 100000 in
theorem records_any (lb b : Nat) (v : Value) (recs : List ByteArray) (torn : Bool) (w : World) (h : LgAt w lb b v recs torn) (hn : recs.length ≤ 1048576) :
    Calls Try.prog 51 #[.pointer (some ⟨lb, 0, none⟩)] w fun e w' => ∃ u, e = .returned u ∧ w'.ownsRow w.heap.size 9 1 u recs.length (recs.map .string) ∧ Below w.heap.size w w' ∧ ∃ ad cp, u = .slice ad recs.length cp := by
  have c1 : w.cell? ⟨lb, 1, none⟩ = some v := h.blk.cell 1
  have hrow := h.row
  obtain ⟨ad, cp, rfl⟩ : ∃ ad cp, v = .slice ad recs.length cp := by
    rcases hrow.2 with ⟨h1, h2⟩ | ⟨g, cap, _, hv, _⟩
    · exact ⟨none, 0, by rw [h1, show recs.length = 0 from h2]⟩
    · exact ⟨_, _, hv⟩
  clear h
  go_enter Try.func51, Try.ntmps51
  go_wp2_with (at_builtin; refine wpList_appRow rfl _ _ 25 rfl w.heap.size 9 Try.underlying25 infoStr rfl (by decide) (.slice none 0 0) 0 [] rfl ⟨rfl, Or.inl ⟨rfl, rfl⟩⟩ _ recs.length 0 (recs.map .string) rfl hrow ?_ ?_ ?_ (Nat.le_refl _) ?_; (intro y hy; obtain ⟨r, _, rfl⟩ := List.mem_map.1 hy; rfl); omega; omega; rintro u w2 hu hg _ ⟨ad2, cp2, rfl⟩)
  go_ret
  simp only [Nat.zero_add, List.nil_append] at hu ⊢
  exact ⟨_, rfl, hu, ⟨hg.os, hg.tape, hg.output, hg.size, fun i hi => hg.block i hi (by simp [Value.ownBlock])⟩, _, _, rfl⟩
end Go.Proofs.Ytjdkhainlcalbaa
