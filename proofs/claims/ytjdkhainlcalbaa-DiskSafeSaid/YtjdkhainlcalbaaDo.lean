/- The disk's calls by their kinds, as the laws make them. -/
import Derived.Test.YtjdkhainlcalbaaSp
import Derived.Test.YtjdkhainlcalbaaSm
import Derived.Test.YtjdkhainlcalbaaAt
namespace Go.Proofs.Ytjdkhainlcalbaa
open Go.RowKit Go.Maps Go.ChangeShapes Go.WideShapes Go.ChangeAt Go.Deep

/-- a call of the disk's laws -/
structure Op14 where
  kind : Int
  src : ByteArray
  dst : ByteArray
  at' : Int
  kv : Value
  ks : List Int
def Op14.cells (x : Op14) : Array Value := #[.int .i64 x.kind, .string x.src, .string x.dst, .int .i64 x.at', x.kv]
structure Op14Ok (W : World) (x : Op14) : Prop where
  src : x.src.size ≤ 9223372036854775807
  dst : x.dst.size ≤ 9223372036854775807
  at' : -9223372036854775808 ≤ x.at' ∧ x.at' ≤ 9223372036854775807
  row : RowInt W x.kv x.ks
  kok : KeepsOk x.ks
  few : x.ks.length ≤ 17592186044416
  shp : (∃ ad n c, x.kv = .slice (some ad) n c) ∨ x.kv = .slice none 0 0
def dkDo (D : Dk) (x : Op14) : Dk × Int :=
  if x.kind = 1 then D.append x.src (few x.dst 60) else
  if x.kind = 2 then D.sync x.src else
  if x.kind = 3 then D.rename x.src x.dst else
  if x.kind = 4 then D.remove x.src else
  if x.kind = 5 then D.settle else
  if x.kind = 6 then (D.armed x.at', 0) else
  if x.kind = 7 then D.spoil x.src x.at' (UInt8.ofNat x.dst.size) else
  if x.kind = 8 then (D.crash x.ks, 0) else (D, 0)

def RowOp14 (w : World) (v : Value) (l : List Op14) : Prop := RowS w 5 (fun cs x => cs = x.cells ∧ Op14Ok w x) v l
theorem arr5 {cs : Array Value} {a b c d e : Value} (hs : cs.size = 5) (h0 : cs[0]? = some a) (h1 : cs[1]? = some b) (h2 : cs[2]? = some c) (h3 : cs[3]? = some d) (h4 : cs[4]? = some e) : cs = #[a, b, c, d, e] := by
  obtain ⟨l⟩ := cs
  match l, hs with
  | [x, y, z, u, t], _ => simp_all
set_option maxRecDepth 100000 in
theorem ops14_in {H : Type} {enc : TypeId × Value → H} {W : World} {base base' : Nat} {v : Value} {d : DataW H} {p : List MemPlace} (hv : Value.okWide Try.prog W .any base 80 v) (h : DataW.Trod enc Try.prog W base' (fun _ => true) true 80 v d p) (hwt : ∀ n ∈ d.weights Try.prog 80, n ≤ reachBytes) : ∃ l, RowOp14 W v l := by
  refine structs_sized (fs := _) (fun cs x => cs = x.cells ∧ Op14Ok W x) Try.underlying80 Try.underlying82 (by decide) (by kernel_rfl) (by kernel_rfl) hv h hwt fun cs hs hf => ?_
  obtain ⟨u0, n0, y0, h0, t0, _⟩ := hf 0 _ rfl
  obtain ⟨u1, n1, y1, h1, t1, _⟩ := hf 1 _ rfl
  obtain ⟨u2, n2, y2, h2, t2, _⟩ := hf 2 _ rfl
  obtain ⟨u3, n3, y3, h3, t3, _⟩ := hf 3 _ rfl
  obtain ⟨u4, n4, y4, h4, t4, g4⟩ := hf 4 _ rfl
  obtain ⟨b0, rfl, _, _⟩ := int_trod Try.underlying3 t0
  obtain ⟨b1, rfl, z1⟩ := string_trod Try.underlying9 t1
  obtain ⟨b2, rfl, z2⟩ := string_trod Try.underlying9 t2
  obtain ⟨b3, rfl, z3⟩ := int_trod Try.underlying3 t3
  obtain ⟨ks, r1, r2, r3, r4⟩ := ints_sized t4 g4
  exact ⟨⟨b0, b1, b2, b3, u4, ks⟩, arr5 hs h0 h1 h2 h3 h4, z1, z2, z3, r1, r2, r3, r4⟩

theorem infoInt : (Try.prog.info? 3).map (fun i => (i.zero, i.size, i.bytes)) = some (some (.int .i64 0), 1, 8) := by kernel_rfl
theorem rowInt_own {w : World} {base n : Nat} {v : Value} {ks : List Int} (h : w.ownsRow base 3 1 v n (ks.map (.int .i64))) : RowInt w v ks := by
  have hl := h.1
  simp at hl
  rcases h.2 with ⟨h1, h2⟩ | ⟨g, cap, cur, hv, _⟩
  · exact Or.inl ⟨⟨_, _, by rw [h1]⟩, List.length_eq_zero_iff.1 (by omega)⟩
  · by_cases h0 : ks = []
    · subst h0
      simp at hl
      subst hl
      exact Or.inl ⟨⟨_, _, hv⟩, rfl⟩
    · refine Or.inr ⟨g, 0, cap, by rw [hv, hl], fun j hj => ?_⟩
      subst hv
      have := own_cell (j := j) (u := .int .i64 ks[j]) h (by simp [List.getElem?_eq_getElem hj])
      have hadd : (⟨g, 0, none⟩ : Addr).add j = ⟨g, 0 + j, none⟩ := by unfold Addr.add; split <;> simp_all
      rw [hadd] at this; exact this
/-- append([]int{}, l...) -/
theorem wpList_appInts {w : World} {ops : Array Oper} {rest : List Oper} {o : Oper} {a : Act} {Q : Exit → Act → World → Prop} (hgd : o.guard = none) (s x : Operand)
    (ho : o.op = .call { callee := .builtin .append, args := #[s, x], argTypes := #[56, 56] }) (base : Nat) (v : Value) (hs : a.eval s = v) (hown : w.ownsRow base 3 1 v 0 [])
    (u : Value) (ks : List Int) (hx : a.eval x = u) (hrow : RowInt w u ks) (hfew : ks.length ≤ 17592186044416) (hshp : (∃ ad n c, u = .slice (some ad) n c) ∨ u = .slice none 0 0) (hbase : base ≤ w.heap.size)
    (h : ∀ v' w', RowInt w' v' ks → w.grownBy w' v.ownBlock → Below base w w' → wpList Try.prog ops Q rest (a.put o.dst v') w') :
    wpList Try.prog ops Q (o :: rest) a w := by
  obtain ⟨i0, hi, hz0, hz1, hz2⟩ := info_parts infoInt
  rcases hshp with ⟨ad, n, c, rfl⟩ | rfl
  · have hnc : n = ks.length ∧ ∀ j (hj : j < ks.length), w.cell? (ad.add j) = some (.int .i64 ks[j]) := by
      rcases hrow with ⟨⟨a, c, h1⟩, h2⟩ | ⟨b, o, c, h1, h2⟩
      · injection h1 with _ h1 _
        subst h2
        exact ⟨h1, fun j hj => by simp at hj⟩
      · injection h1 with h1 h3 _
        have h1 := Option.some.inj h1
        subst h1
        exact ⟨h3, fun j hj => by rw [addr_add _ rfl]; exact h2 j hj⟩
    obtain ⟨rfl, hc⟩ := hnc
    refine wpList_append_own_at _ hgd s x 56 ho base 3 i0 (.int .i64 0) 1 8 Try.underlying56 hi hz0 hz1 hz2 rfl (by decide) v 0 [] hs hown ad ks.length c (ks.map (.int .i64)) hx (by simp) ?_ (fun y hy => by obtain ⟨r, _, rfl⟩ := List.mem_map.1 hy; rfl) (by unfold maxLen; omega) (by omega) hbase ?_
    · intro j y hj
      have hj' : j < ks.length := by have := (List.getElem?_eq_some_iff.1 hj).1; simpa using this
      rw [hc j hj']
      simpa [List.getElem?_eq_getElem hj'] using hj
    · intro v' w' a1 a2 _ _
      rw [Nat.zero_add, List.nil_append] at a1
      exact h v' w' (rowInt_own a1) a2 (below_grown (Below.refl base w) hbase hown a2)
  · have hks : ks = [] := by
      rcases hrow with ⟨_, h2⟩ | ⟨b, o, c, h1, _⟩
      · exact h2
      · simp at h1
    subst hks
    refine wpList_append_own_none hgd s x 56 ho base 3 i0 1 Try.underlying56 hi v 0 [] hs hown hx ?_
    exact h v w (rowInt_own hown) ⟨rfl, rfl, rfl, Nat.le_refl _, fun _ _ _ => rfl⟩ (Below.refl _ _)

theorem own_empty (w : World) (o : Obj) : ((w.alloc o).alloc (.cells #[] 3)).ownsRow w.heap.size 3 1 (.slice (some ⟨w.heap.size + 1, 0, none⟩) 0 0) 0 [] := by
  have h := World.ownsRow_lit (base := w.heap.size) (size := 1) (e := 3) (w.alloc o) #[] 0 (by simp) (by decide) rfl
  simpa using h

set_option maxRecDepth 100000 in
set_option maxHeartbeats 6400000 in
theorem do_any (b : Nat) (D : Dk) (L : Lay) (x : Op14) (w : World) (h : DiskAt w b D L) (hx : Op14Ok w x) (hsm : D.small 400000) :
    Calls Try.prog 40 #[.pointer (some ⟨b, 0, none⟩), .agg x.cells] w fun e w' => e = .returned (.int .i64 (dkDo D x).2) ∧ DkPost b L (dkDo D x).1 w w' := by
  obtain ⟨kind, src, dst, at', kv, ks⟩ := x
  obtain ⟨z1, z2, z3, hrow, hkok, hfew, hshp⟩ := hx
  simp only at z1 z2 z3 hrow hkok hfew hshp
  have hsh : ∃ ka kn kc, kv = .slice ka kn kc := by
    rcases hshp with ⟨_, _, _, h⟩ | h
    · exact ⟨_, _, _, h⟩
    · exact ⟨_, _, _, h⟩
  obtain ⟨ka, kn, kc, rfl⟩ := hsh
  have HB := Lib.hid (fun (W : World) (D' : Dk) (w' : World) (hb : Below w.heap.size w W) (hp : DkPost b L D' W w') => (DkPost.trans (Touch.of_below _ hb) (fun k hk => Or.inl hk) hp : DkPost b L D' w w'))
  have HH := Lib.hid fun W (hb : Below w.heap.size w W) => h.below hb
  have HS := Lib.hid hsm
  have HROW := Lib.hid hrow
  have HSHP := Lib.hid hshp
  have hbx : ∀ o : Obj, Below w.heap.size w (w.alloc o) := fun o => (Below.refl _ _).alloc (Nat.le_refl _) o
  have HBX := Lib.hid hbx
  unfold Op14.cells
  simp only
  clear h hsm hrow hshp hbx
  by_cases h1 : kind = 1
  · subst h1
    have e : dkDo D ⟨1, src, dst, at', .slice ka kn kc, ks⟩ = D.append src (few dst 60) := rfl
    rw [e]
    have hfz := few_size dst 60
    have HF := Lib.hid fun W => few_any dst 60 W z2
    have HC := Lib.hid fun W (hb : Below w.heap.size w W) => append_any b D L src (few dst 60) W (HH.out W hb) z1 (by omega) (Nat.le_trans HS.out.1 (by decide)) (Nat.le_trans HS.out.2 (by decide))
    clear e
    generalize D.append src (few dst 60) = r at *
    generalize few dst 60 = d60 at *
    go_enter Try.func40, Try.ntmps40
    go_wp2_with fail
    go_region_with (first
      | (go_at_call 35; refine (HF.out _).mono ?_; rintro e w3 ⟨rfl, rfl⟩)
      | (go_at_call 26; refine (HC.out _ ?_).mono ?_; (first | exact HBX.out _ | exact (HBX.out _).drew | exact (HBX.out _).trans (below_drewN _ _)); rintro e w4 ⟨rfl, hp4⟩; have hp5 := HB.out _ _ _ (by (first | exact HBX.out _ | exact (HBX.out _).drew | exact (HBX.out _).trans (below_drewN _ _))) hp4))
    all_goals
      go_wp2
      go_ret
      exact ⟨rfl, hp5⟩
  by_cases h2 : kind = 2
  · subst h2
    have e : dkDo D ⟨2, src, dst, at', .slice ka kn kc, ks⟩ = D.sync src := rfl
    rw [e]
    have HC := Lib.hid fun W (hb : Below w.heap.size w W) => sync_any b D L src W (HH.out W hb) z1
    clear e
    generalize D.sync src = r at *
    go_enter Try.func40, Try.ntmps40
    go_wp2_with fail
    refine (HC.out _ (HBX.out _)).mono ?_
    rintro e w4 ⟨rfl, hp4⟩
    have hp5 := Lib.hid (HB.out _ _ _ (HBX.out _) hp4)
    clear hp4
    go_wp2
    go_ret
    exact ⟨rfl, hp5.out⟩
  by_cases h3 : kind = 3
  · subst h3
    have e : dkDo D ⟨3, src, dst, at', .slice ka kn kc, ks⟩ = D.rename src dst := rfl
    rw [e]
    have HC := Lib.hid fun W (hb : Below w.heap.size w W) => rename_any b D L src dst W (HH.out W hb) z1 z2 (Nat.le_trans HS.out.2 (by decide)) (Nat.le_trans HS.out.1 (by decide))
    clear e
    generalize D.rename src dst = r at *
    go_enter Try.func40, Try.ntmps40
    go_wp2_with fail
    refine (HC.out _ (HBX.out _)).mono ?_
    rintro e w4 ⟨rfl, hp4⟩
    have hp5 := Lib.hid (HB.out _ _ _ (HBX.out _) hp4)
    clear hp4
    go_wp2
    go_ret
    exact ⟨rfl, hp5.out⟩
  by_cases h4 : kind = 4
  · subst h4
    have e : dkDo D ⟨4, src, dst, at', .slice ka kn kc, ks⟩ = D.remove src := rfl
    rw [e]
    have HC := Lib.hid fun W (hb : Below w.heap.size w W) => remove_any b D L src W (HH.out W hb) z1 (Nat.le_trans HS.out.2 (by decide))
    clear e
    generalize D.remove src = r at *
    go_enter Try.func40, Try.ntmps40
    go_wp2_with fail
    refine (HC.out _ (HBX.out _)).mono ?_
    rintro e w4 ⟨rfl, hp4⟩
    have hp5 := Lib.hid (HB.out _ _ _ (HBX.out _) hp4)
    clear hp4
    go_wp2
    go_ret
    exact ⟨rfl, hp5.out⟩
  by_cases h5 : kind = 5
  · subst h5
    have e : dkDo D ⟨5, src, dst, at', .slice ka kn kc, ks⟩ = D.settle := rfl
    rw [e]
    have HC := Lib.hid fun W (hb : Below w.heap.size w W) => settle_any b D L W (HH.out W hb)
    clear e
    generalize D.settle = r at *
    go_enter Try.func40, Try.ntmps40
    go_wp2_with fail
    refine (HC.out _ (HBX.out _)).mono ?_
    rintro e w4 ⟨rfl, hp4⟩
    have hp5 := Lib.hid (HB.out _ _ _ (HBX.out _) hp4)
    clear hp4
    go_wp2
    go_ret
    exact ⟨rfl, hp5.out⟩
  by_cases h6 : kind = 6
  · subst h6
    have e : dkDo D ⟨6, src, dst, at', .slice ka kn kc, ks⟩ = (D.armed at', 0) := rfl
    rw [e]
    have HC := Lib.hid fun W (hb : Below w.heap.size w W) => arm_any b D L at' W (HH.out W hb) z3.2
    clear e
    generalize D.armed at' = r at *
    go_enter Try.func40, Try.ntmps40
    go_wp2_with fail
    refine (HC.out _ (HBX.out _)).mono ?_
    rintro e w4 ⟨rfl, hp4⟩
    have hp5 := Lib.hid (HB.out _ _ _ (HBX.out _) hp4)
    clear hp4
    go_wp2
    go_ret
    exact ⟨rfl, hp5.out⟩
  by_cases h7 : kind = 7
  · subst h7
    have e : dkDo D ⟨7, src, dst, at', .slice ka kn kc, ks⟩ = D.spoil src at' (UInt8.ofNat dst.size) := rfl
    rw [e]
    have hc8 : ((UInt8.ofNat dst.size).toNat : Int) = (dst.size : Int) % 256 := by rw [UInt8.toNat_ofNat']; omega
    have HC := Lib.hid fun W (hb : Below w.heap.size w W) => spoil_any b D L src at' (UInt8.ofNat dst.size) W (HH.out W hb) z1
    rw [hc8] at HC
    clear e hc8
    generalize D.spoil src at' (UInt8.ofNat dst.size) = r at *
    go_enter Try.func40, Try.ntmps40
    go_wp2_with fail
    refine (HC.out _ (HBX.out _)).mono ?_
    rintro e w4 ⟨rfl, hp4⟩
    have hp5 := Lib.hid (HB.out _ _ _ (HBX.out _) hp4)
    clear hp4
    go_wp2
    go_ret
    exact ⟨rfl, hp5.out⟩
  by_cases h8 : kind = 8
  · subst h8
    have e : dkDo D ⟨8, src, dst, at', .slice ka kn kc, ks⟩ = (D.crash ks, 0) := rfl
    rw [e]
    have HC := Lib.hid fun W v (hb : Below w.heap.size w W) (hr : RowInt W v ks) => crash_any b D L ks v W (HH.out W hb) hr hkok.1 hkok.2 HS.out.2 HS.out.1
    have HOWN := Lib.hid fun (o : Obj) => (own_empty w o : ((w.alloc o).alloc (.cells #[] 3)).ownsRow w.heap.size 3 1 (.slice (some ⟨w.heap.size + 1, 0, none⟩) 0 0) 0 [])
    have HB2 := Lib.hid fun (o o2 : Obj) => (((Below.refl _ w).alloc (Nat.le_refl _) o).alloc (by simp) o2 : Below w.heap.size w ((w.alloc o).alloc o2))
    have HSZ := Lib.hid fun (o o2 : Obj) => (by simp; omega : w.heap.size ≤ ((w.alloc o).alloc o2).heap.size)
    clear e
    generalize D.crash ks = r at *
    go_enter Try.func40, Try.ntmps40
    go_wp2_with (at_builtin; refine wpList_appInts rfl _ _ rfl w.heap.size _ rfl (HOWN.out _) _ ks rfl (HROW.out.below (HB2.out _ _)) hfew HSHP.out (HSZ.out _ _) ?_; intro v8 w8 hr8 hg8 hb8)
    have hb9 : Below w.heap.size w w8 := (HB2.out _ _).trans hb8
    go_wp2_with fail
    refine (HC.out _ _ hb9 hr8).mono ?_
    rintro e w4 ⟨rfl, hp4⟩
    have hp5 := Lib.hid (HB.out _ _ _ hb9 hp4)
    clear hp4
    go_wp2
    go_ret
    exact ⟨rfl, hp5.out⟩
  have e : dkDo D ⟨kind, src, dst, at', .slice ka kn kc, ks⟩ = (D, 0) := by
    unfold dkDo
    simp only
    rw [if_neg h1, if_neg h2, if_neg h3, if_neg h4, if_neg h5, if_neg h6, if_neg h7, if_neg h8]
  rw [e]
  have hp5 := Lib.hid (HB.out w D _ (Below.refl _ _) (dkSame (HH.out w (Below.refl _ _)) (Touch.refl _ _)))
  have q1 : (kind == 1) = false := by simpa using h1
  have q2 : (kind == 2) = false := by simpa using h2
  have q3 : (kind == 3) = false := by simpa using h3
  have q4 : (kind == 4) = false := by simpa using h4
  have q5 : (kind == 5) = false := by simpa using h5
  have q6 : (kind == 6) = false := by simpa using h6
  have q7 : (kind == 7) = false := by simpa using h7
  have q8 : (kind == 8) = false := by simpa using h8
  have hp6 := Lib.hid fun o => (DkPost.of ((HH.out w (Below.refl _ _)).below (HBX.out o)) (HBX.out o) : DkPost b L D w (w.alloc o))
  clear e h1 h2 h3 h4 h5 h6 h7 h8 hp5
  go_enter Try.func40, Try.ntmps40
  go_wp2
  go_ret
  exact ⟨rfl, hp6.out _⟩
end Go.Proofs.Ytjdkhainlcalbaa
