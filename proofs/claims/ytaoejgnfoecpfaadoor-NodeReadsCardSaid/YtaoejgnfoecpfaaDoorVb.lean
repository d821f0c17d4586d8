/- Numbers in groups of seven bits: the document's, walked. -/
import Derived.Test.YtaoejgnfoecpfaaDoorVa
namespace Go.Proofs.YtaoejgnfoecpfaaDoor
open Go.RowKit

theorem bytesV_set (done : List UInt8) (c d : UInt8) : (bytesV (done ++ [c])).set done.length (.int .u8 d.toNat) = bytesV (done ++ [d]) := by
  simp [bytesV, List.set_append_right]
/-- wpList_app1 where the new block's number is spelled otherwise -/
theorem wpList_app1s {P : Program} {w : World} {ops : Array Oper} {rest : List Oper} {o : Oper} {a : Act} {Q : Exit → Act → World → Prop} (hgd : o.guard = none) (s x : Operand) (t : TypeId)
    (ho : o.op = .call { callee := .builtin .append, args := #[s, x], argTypes := #[t, t] })
    (base : Nat) (e : TypeId) {z : Value} {size bytes : Nat} (ht : P.underlying t = some (.slice e))
    (hinfo : (P.info? e).map (fun i => (i.zero, i.size, i.bytes)) = some (some z, size, bytes)) (hzs : z.cells.size = size) (hsz : 0 < size)
    (v : Value) (n : Nat) (xs : List Value) (hs : a.eval s = v) (hown : w.ownsRow base e size v n xs)
    (cs : Array Value) {bz : Nat} (hbz : bz = w.heap.size) (hx : a.eval x = .slice (some ⟨bz, 0, none⟩) 1 1) (hl : cs.size = size) (h1 : ∀ u ∈ cs.toList, u.oneCell' = true)
    (hbytes : (n + 1) * bytes ≤ 140737488355328) (h63 : n + 1 ≤ 140737488355328) (hbase : base ≤ w.heap.size)
    (h : ∀ g cap w', w'.ownsRow base e size (.slice (some ⟨g, 0, none⟩) (n + 1) cap) (n + 1) (xs ++ cs.toList) → w.grownBy w' v.ownBlock → Below base w w' → (v.ownBlock = some g ∨ g = w.heap.size + 1) → wpList P ops Q rest (a.put o.dst (.slice (some ⟨g, 0, none⟩) (n + 1) cap)) w') :
    wpList P ops Q (o :: rest) a (w.alloc (.cells cs e)) := by
  subst hbz
  exact wpList_app1 hgd s x t ho base e ht hinfo hzs hsz v n xs hs hown cs hx hl h1 hbytes h63 hbase h
theorem bytesV_last (done : List UInt8) (c : UInt8) : (bytesV (done ++ [c]))[done.length]? = some (.int .u8 c.toNat) := by
  simp [bytesV]
set_option maxRecDepth 100000 in
set_option maxHeartbeats 1600000 in
theorem refvar_any (x : Nat) (w : World) (hx : x < 18446744073709551616) :
    Calls Tryd.prog 106 #[.int .u64 x] w fun e w' => e = .returned (.string ⟨(varL x).toArray⟩) ∧ Below w.heap.size w w' := by
  have h0 : x < 128 ^ (10 + 1) := Nat.lt_trans hx (by decide)
  have HX := Lib.hid hx
  have hw0 : IntKind.u8.wrap ((x : Int) % 128) = (x : Int) % 128 := IntWalk.u8_in _ (by omega)
  have hwx : IntKind.u64.wrap ((x : Int) / 128) = (x : Int) / 128 := by rw [IntKind.wrap_u64]; omega
  clear hx
  go_enter Tryd.func106, Tryd.ntmps106
  go_wp2
  go_loopw [0, 3] (fun y v wr => ∃ (z f g cap : Nat) (done : List UInt8), y = .int .u64 ((z / 128 : Nat) : Int) ∧ v = .slice (some ⟨g, 0, none⟩) (done.length + 1 : Nat) cap ∧ z ≤ x ∧ wr.ownsRow w.heap.size 5 1 (.slice (some ⟨g, 0, none⟩) (done.length + 1) cap) (done.length + 1) (bytesV (done ++ [UInt8.ofNat (z % 128)])) ∧ Below w.heap.size w wr ∧ done ++ varF f z = varL x ∧ done.length + f ≤ 10 ∧ z < 128 ^ (f + 1)) (fun y _ _ => (intOf y).toNat)
  case atStart =>
    refine ⟨x, 10, w.heap.size, 1, [], ?_, rfl, Nat.le_refl _, ?_, (Below.refl _ w).alloc (Nat.le_refl _) _, rfl, by simp, h0⟩
    · rw [show ((x / 128 : Nat) : Int) = (x : Int) / 128 by omega]
    · have := World.ownsRow_lit (e := 5) (size := 1) w #[.int .u8 ((x : Int) % 128)] 1 (Nat.le_refl _) (by decide) rfl
      have e : bytesV ([] ++ [UInt8.ofNat (x % 128)]) = [.int .u8 ((x : Int) % 128)] := by
        simp only [List.nil_append, bytesV, List.map_cons, List.map_nil]
        rw [u8_small (by omega), show ((x % 128 : Nat) : Int) = (x : Int) % 128 by omega]
      rw [e]
      exact this
  case round =>
    obtain ⟨z, f, g, cap, done, rfl, rfl, hzx, hown, hb, hn, hlf, hz⟩ := hrel
    have HN := Lib.hid hn
    have HZ := Lib.hid hz
    have HZLE := Lib.hid hzx
    have HZX := Lib.hid (Nat.lt_of_le_of_lt hzx HX.out)
    have HOWN := Lib.hid hown
    have hsz := hb.size
    have hll : done.length ≤ 10 := by omega
    clear hn hz hzx
    by_cases h : z < 128
    · have hz0 : ((z / 128 : Nat) : Int) = 0 := by omega
      rw [hz0]
      have hV : done ++ [UInt8.ofNat (z % 128)] = varL x := by rw [Nat.mod_eq_of_lt h, ← varF_small (f := f) h]; exact HN.out
      have hcv := run_convert_own 46 9 5 Tryd.underlying46 Tryd.underlying5 Tryd.underlying9 hown
      rw [hV] at hcv
      clear hV hz0 h hown
      go_wp2
      go_ret
      exact ⟨rfl, hb⟩
    · obtain ⟨f, rfl⟩ : ∃ g, f = g + 1 := by
        cases f with
        | zero => have := HZ.out; simp at this; omega
        | succ g => exact ⟨g, rfl⟩
      have hq1 : (0 : Int) < ((z / 128 : Nat) : Int) := by omega
      have HV := Lib.hid (show (done ++ [UInt8.ofNat (z % 128 + 128)]) ++ varF f (z / 128) = varL x by rw [← HN.out, varF_great h, List.append_assoc]; rfl)
      have HQ := Lib.hid (show z / 128 ≤ x from Nat.le_trans (Nat.div_le_self _ _) HZLE.out)
      have HP := Lib.hid (show z / 128 < 128 ^ (f + 1) by rw [Nat.div_lt_iff_lt_mul (by decide), Nat.mul_comm, ← pow128]; exact HZ.out)
      have hm : z % 128 < 128 := by omega
      have hwq : IntKind.u64.wrap (((z / 128 : Nat) : Int) / 128) = ((z / 128 : Nat) : Int) / 128 := by rw [IntKind.wrap_u64]; have := HZX.out; omega
      have hm2 : IntKind.u8.wrap (((z / 128 : Nat) : Int) % 128) = ((z / 128 : Nat) : Int) % 128 := IntWalk.u8_in _ (by omega)
      have HLT := Lib.hid (show z / 128 < z by omega)
      clear h
      generalize z / 128 = q at *
      generalize z % 128 = c at *
      have hcell := hown.cellAt done.length (by omega)
      rw [bytesV_last, u8_small (by omega)] at hcell
      have hfz := hown.frozenAt done.length
      have hst := hown.stored done.length (.int .u8 ((c : Int) + 128))
      rw [show Value.int .u8 ((c : Int) + 128) = .int .u8 ((UInt8.ofNat (c + 128)).toNat : Int) by rw [u8_small (by omega)]; rfl, bytesV_set, ← show Value.int .u8 ((c : Int) + 128) = .int .u8 ((UInt8.ofNat (c + 128)).toNat : Int) by rw [u8_small (by omega)]; rfl] at hst
      have HST := Lib.hid hst
      have hown2 := hst.1
      have hb2 : Below w.heap.size w (wr.setCell ⟨g, done.length, none⟩ (.int .u8 ((c : Int) + 128))) := hb.grown hst.2 hsz (fun j hj => by cases hj; exact (hown.lt g rfl).1)
      have hsz2 : w.heap.size ≤ (wr.setCell ⟨g, done.length, none⟩ (.int .u8 ((c : Int) + 128))).heap.size := hb2.size
      have HSZ3 := Lib.hid (show wr.heap.size = (wr.setCell ⟨g, done.length, none⟩ (.int .u8 ((c : Int) + 128))).heap.size by simp)
      clear hst hown
      go_wp2_with (at_builtin; refine wpList_app1s rfl _ _ 46 rfl w.heap.size 5 Tryd.underlying46 infoB rfl (by decide) _ _ _ rfl hown2 _ HSZ3.out rfl rfl (oneCell_int _ _) ?_ ?_ ?_ ?_; omega; omega; exact hsz2; intro g1 cap1 w5 hown' hgr hbw _)
      go_roundw
      case rel =>
        refine ⟨q, f, g1, cap1, done ++ [UInt8.ofNat (c + 128)], ?_, by simp, HQ.out, ?_, hb2.trans hbw, HV.out, by simp; omega, HP.out⟩
        · rw [show ((q / 128 : Nat) : Int) = (q : Int) / 128 by omega]
        · rw [bytesV_app]
          have e : bytesV [UInt8.ofNat (q % 128)] = [.int .u8 ((q : Int) % 128)] := by
            simp only [bytesV, List.map_cons, List.map_nil]
            rw [u8_small (by omega), show ((q % 128 : Nat) : Int) = (q : Int) % 128 by omega]
          rw [e]
          simpa using hown'
      case measure => simp [intOf]; omega
end Go.Proofs.YtaoejgnfoecpfaaDoor
