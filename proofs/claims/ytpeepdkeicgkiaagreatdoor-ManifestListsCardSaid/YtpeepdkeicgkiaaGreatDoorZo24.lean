/- Manifests on a disk: Remove. Manifests on a disk: Load. -/
import Derived.Test.YtpeepdkeicgkiaaGreatDoorZo23
namespace Go.Proofs.YtpeepdkeicgkiaaGreatDoor
set_option linter.unusedVariables false
set_option linter.unusedSimpArgs false
set_option linter.unusedSectionVars false
open Go.RowKit Go.Maps

def Dk.mremove (D : Dk) : List ByteArray → Dk × Int
  | [] => D.settle
  | id :: r => if (D.remove (frontS ++ id)).2 ≠ 0 ∧ (D.remove (frontS ++ id)).2 ≠ 7 then D.remove (frontS ++ id) else (D.remove (frontS ++ id)).1.mremove r
theorem strs_touch {w w' : World} {G : Nat → Prop} {A : Option Addr} {l : List ByteArray} (h : StrsA w w.heap.size A l) (ht : Touch G w w') (hf : ∀ g o, 0 < l.length → A = some ⟨g, o, none⟩ → ¬ G g) : StrsA w' w'.heap.size A l := fun hl => by
  obtain ⟨b, o, e, hlt, hc⟩ := h hl
  refine ⟨b, o, e, Nat.lt_of_lt_of_le hlt ht.size, fun j u hj => ?_⟩
  rw [← hc j u hj]
  exact World.cell?_of_block (ht.block b hlt (hf b o hl e))
set_option maxRecDepth 100000 in
set_option maxHeartbeats 1600000 in
theorem mremove_any (b : Nat) (D : Dk) (L : Lay) (ids : List ByteArray) (A : Option Addr) (c : Nat) (w : World) (h : DiskAt w b D L) (hst : StrsA w w.heap.size A ids) (hf : ∀ g o, 0 < ids.length → A = some ⟨g, o, none⟩ → g ∉ foot b L)
    (hz : ∀ x ∈ ids, x.size ≤ 140737488355328) (hl : ids.length ≤ 100000) (hsm : D.small 200000) :
    Calls Tryz.prog 17 #[.pointer (some ⟨b, 0, none⟩), .slice A ids.length c] w fun e w' => e = .returned (.int .i64 (D.mremove ids).2) ∧ DkPost b L (D.mremove ids).1 w w' := by
  have HP := Lib.hid (show D.mremove ids = D.mremove (ids.drop 0) ∧ DkPost b L D w w ∧ D.small (200000 + 0) from ⟨rfl, DkPost.of h (Below.refl _ _), hsm⟩)
  have HST := Lib.hid fun W (ht : Touch (· ∈ foot b L) w W) => strs_touch hst ht hf
  have HZ := Lib.hid hz
  clear h hst hf hz hsm
  generalize D.mremove ids = ans at *
  go_enter Tryz.func17, Tryz.ntmps17
  go_wp2
  go_loopw [10] (fun iv wr => ∃ k D', iv = .int .i64 (k : Nat) ∧ k ≤ ids.length ∧ Hid (ans = Dk.mremove D' (ids.drop k) ∧ DkPost b L D' w wr ∧ D'.small (200000 + k))) (fun iv _ => ids.length - (intOf iv).toNat)
  case atStart => exact ⟨0, D, rfl, Nat.zero_le _, HP⟩
  case round =>
    clear HP
    obtain ⟨k, E, rfl, hk, HP⟩ := hrel
    by_cases hlt : k < ids.length
    · obtain ⟨L1, hd1, ht1, _⟩ := HP.out.2.1
      obtain ⟨g, o, rfl, hg, hcc⟩ := HST.out _ ht1 (by omega)
      have cs := hcc k _ (List.getElem?_eq_getElem hlt)
      have hsz := HZ.out _ (List.getElem_mem hlt)
      clear hcc hd1 ht1
      have HU := Lib.hid (HP.out.1.trans (show E.mremove (ids.drop k) = if (E.remove (frontS ++ ids[k])).2 ≠ 0 ∧ (E.remove (frontS ++ ids[k])).2 ≠ 7 then E.remove (frontS ++ ids[k]) else (E.remove (frontS ++ ids[k])).1.mremove (ids.drop (k + 1)) from by rw [List.drop_eq_getElem_cons hlt]; rfl))
      have HSM := Lib.hid (small_remove HP.out.2.2 (frontS ++ ids[k]))
      have hfz : (frontS ++ ids[k]).size = 1 + ids[k].size := by rw [ByteArray.size_append]; rfl
      generalize ids[k] = s at *
      have HF := Lib.hid (show frontS ++ s = (⟨#[115]⟩ : ByteArray) ++ s from rfl)
      generalize frontS ++ s = fs at *
      have h1z : fs.size ≤ 9223372036854775807 := by omega
      have h2z : E.steps.length ≤ 1048576 := by have := HP.out.2.2.2; omega
      have HC := Lib.hid (HP.out.2.1.call fun L1 h1 => remove_any b E L1 fs _ h1 h1z (Nat.le_trans h2z (by decide)))
      clear h1z h2z
      generalize E.remove fs = dp at *
      obtain ⟨D1, c1⟩ := dp
      simp only at HU HC HSM
      have hadd := fun W => run_string_add_sum (P := Tryz.prog) W (⟨#[115]⟩ : ByteArray) s (by have : (⟨#[115]⟩ : ByteArray).size = 1 := rfl; omega)
      rw [← HF.out] at hadd
      clear HP hfz
      go_wp2_with fail
      refine HC.out.mono ?_
      rintro e w1 ⟨rfl, hp1⟩
      have HP1 := Lib.hid hp1
      clear hp1 HC
      by_cases hx : c1 ≠ 0 ∧ c1 ≠ 7
      · obtain ⟨ha, hb⟩ := hx
        have HU2 := Lib.hid (show ans = (D1, c1) from by rw [HU.out]; simp [ha, hb])
        have n1 := bne0' ha
        have n2 : (c1 != 7) = true := by simpa using hb
        clear HU ha hb
        go_wp2
        go_ret
        exact ⟨by rw [HU2.out]; rfl, by rw [HU2.out]; exact HP1.out⟩
      · have HU2 := Lib.hid (show ans = D1.mremove (ids.drop (k + 1)) from by rw [HU.out, if_neg hx])
        have HR := Lib.hid (show ans = D1.mremove (ids.drop (k + 1)) ∧ DkPost b L D1 w w1 ∧ D1.small (200000 + (k + 1)) from ⟨HU2.out, HP1.out, HSM.out⟩)
        clear HU HU2 HP1 HSM
        rcases (show c1 = 0 ∨ (c1 ≠ 0 ∧ c1 = 7) by omega) with rfl | ⟨_, rfl⟩
        all_goals
          clear hx
          go_wp2
          go_roundw
          case rel => exact ⟨k + 1, D1, by go_num, by omega, HR⟩
          case measure => simp [intOf]; omega
    · obtain rfl : k = ids.length := by omega
      have HU := Lib.hid (HP.out.1.trans (show E.mremove (ids.drop ids.length) = E.settle from by rw [List.drop_length]; rfl))
      have HC := Lib.hid (HP.out.2.1.call fun L1 h1 => settle_any b E L1 _ h1)
      generalize E.settle = dp at *
      obtain ⟨D1, c1⟩ := dp
      simp only at HC
      clear HP
      go_wp2_with fail
      refine HC.out.mono ?_
      rintro e w1 ⟨rfl, hp1⟩
      have HP1 := Lib.hid hp1
      clear hp1 HC
      go_wp2
      go_ret
      exact ⟨by rw [HU.out]; rfl, by rw [HU.out]; exact HP1.out⟩
end Go.Proofs.YtpeepdkeicgkiaaGreatDoor
namespace Go.Proofs.YtpeepdkeicgkiaaGreatDoor
set_option linter.unusedVariables false
set_option linter.unusedSimpArgs false
set_option linter.unusedSectionVars false
open Go.RowKit Go.Maps

def Dk.mload (D : Dk) (id : ByteArray) : Man × Int :=
  if (D.load frontS (frontS ++ id)).2 ≠ 0 then (noMan, (D.load frontS (frontS ++ id)).2) else
  if (decS (D.load frontS (frontS ++ id)).1).2 ≠ 0 then (noMan, 13) else ((decS (D.load frontS (frontS ++ id)).1).1, 0)
def MLoadPost (r : Man × Int) (w : World) (e : Ending) (w' : World) : Prop :=
  ∃ A c, e = .returned (.tuple #[manV r.1 A c, .int .i64 r.2]) ∧ StrsA w' w'.heap.size A r.1.chunks ∧ Below w.heap.size w w' ∧ r.1.chunks.length ≤ c
theorem load_le {D : Dk} (h : DkOk D) (f n : ByteArray) : (D.load f n).1.size ≤ 1073741824 := by
  unfold Dk.load
  split
  · exact Nat.zero_le _
  · split
    · exact Nat.zero_le _
    · split
      · exact Nat.zero_le _
      · exact read_le h n
theorem zero_text (i : Nat) (u : ByteArray) (h : (#[.int .i64 0, .string ⟨#[]⟩, .string ⟨#[]⟩, .int .i64 0, .slice none 0 0] : Array Value)[i]? = some (.string u)) : u.size = 0 := by
  match i, h with
  | 0, h => cases h
  | 1, h => cases h; rfl
  | 2, h => cases h; rfl
  | 3, h => cases h
  | 4, h => cases h
  | i + 5, h => cases h
set_option maxRecDepth 100000 in
set_option maxHeartbeats 1600000 in
theorem mload_any (b : Nat) (D : Dk) (L : Lay) (id : ByteArray) (w : World) (h : DiskAt w b D L) (he : Env w) (hs : id.size ≤ 140737488355328) :
    Calls Tryz.prog 12 #[.pointer (some ⟨b, 0, none⟩), .string id] w fun e w' => MLoadPost (D.mload id) w e w' := by
  have HB0 := Lib.hid (show Below w.heap.size w (w.alloc (.cells #[.int .i64 0, .string ⟨#[]⟩, .string ⟨#[]⟩, .int .i64 0, .slice none 0 0] 32)) from (Below.refl w.heap.size w).alloc (Nat.le_refl _) _)
  have HK0 := Lib.hid (Blk.new w 32 #[.int .i64 0, .string ⟨#[]⟩, .string ⟨#[]⟩, .int .i64 0, .slice none 0 0])
  have hfz : (frontS ++ id).size = 1 + id.size := by rw [ByteArray.size_append]; rfl
  have h1z : (frontS ++ id).size ≤ 140737488355328 + frontS.size := by show _ ≤ 140737488355328 + 1; omega
  have HL := Lib.hid (load_any b D L frontS (frontS ++ id) _ (h.below HB0.out) (by decide) h1z)
  have HU := Lib.hid (show D.mload id = (if (D.load frontS (frontS ++ id)).2 ≠ 0 then (noMan, (D.load frontS (frontS ++ id)).2) else if (decS (D.load frontS (frontS ++ id)).1).2 ≠ 0 then (noMan, 13) else ((decS (D.load frontS (frontS ++ id)).1).1, 0)) from rfl)
  have hqz := load_le h.ok frontS (frontS ++ id)
  have HDE := Lib.hid fun W (hb : Below w.heap.size w W) => mdecode_any (D.load frontS (frontS ++ id)).1 W (he.below hb) (by omega)
  have HF := Lib.hid (show frontS ++ id = (⟨#[115]⟩ : ByteArray) ++ id from rfl)
  rw [show frontS = (⟨#[115]⟩ : ByteArray) from rfl] at HL HU HDE hqz hfz HF
  clear h1z
  have hadd := fun W => run_string_add_sum (P := Tryz.prog) W (⟨#[115]⟩ : ByteArray) id (by have : (⟨#[115]⟩ : ByteArray).size = 1 := rfl; omega)
  generalize D.mload id = ans at *
  generalize (⟨#[115]⟩ : ByteArray) ++ id = fs at *
  generalize D.load ⟨#[115]⟩ fs = dp at *
  obtain ⟨q, r⟩ := dp
  simp only at HL HU HDE hqz
  clear hfz h he hs hqz HF
  go_enter Tryz.func12, Tryz.ntmps12
  go_wp2_with fail
  refine HL.out.mono ?_
  rintro e w1 ⟨rfl, hb1⟩
  have HB1 := Lib.hid (HB0.out.trans (hb1.mono HB0.out.size))
  have HK1 := Lib.hid (HK0.out.below hb1 (by simp))
  clear hb1 HB0 HK0 HL
  have r0 : w1.cell? ⟨w.heap.size, 0, none⟩ = some (.int .i64 0) := HK1.out.cell 0
  have u0 : w1.frozen? ⟨w.heap.size, 0, none⟩ = false := HK1.out.frozen 0
  have r1 : w1.cell? ⟨w.heap.size, 1, none⟩ = some (.string ⟨#[]⟩) := HK1.out.cell 1
  have u1 : w1.frozen? ⟨w.heap.size, 1, none⟩ = false := HK1.out.frozen 1
  have r2 : w1.cell? ⟨w.heap.size, 2, none⟩ = some (.string ⟨#[]⟩) := HK1.out.cell 2
  have u2 : w1.frozen? ⟨w.heap.size, 2, none⟩ = false := HK1.out.frozen 2
  have r3 : w1.cell? ⟨w.heap.size, 3, none⟩ = some (.int .i64 0) := HK1.out.cell 3
  have u3 : w1.frozen? ⟨w.heap.size, 3, none⟩ = false := HK1.out.frozen 3
  have r4 : w1.cell? ⟨w.heap.size, 4, none⟩ = some (.slice none 0 0) := HK1.out.cell 4
  have u4 : w1.frozen? ⟨w.heap.size, 4, none⟩ = false := HK1.out.frozen 4
  by_cases h0 : r = 0
  · subst h0
    clear r0 u0 r1 u1 r2 u2 r3 u3 r4 u4
    have HU2 := Lib.hid (show ans = (if (decS q).2 ≠ 0 then (noMan, 13) else ((decS q).1, 0)) from by rw [HU.out]; simp)
    have HD2 := Lib.hid (HDE.out _ HB1.out)
    clear HU HDE
    go_wp2_with fail
    refine HD2.out.mono ?_
    rintro e w2 ⟨A, c, rfl, hst2, hb2, hc2, _⟩
    have HB2 := Lib.hid (HB1.out.trans (hb2.mono HB1.out.size))
    have HK2 := Lib.hid (HK1.out.below hb2 HK1.out.lt)
    have HC2 := Lib.hid hc2
    have HS2 := Lib.hid hst2
    clear hb2 HB1 HK1 HD2 hst2 hc2
    have H32 := Lib.hid (show (decS q).2 = 0 → ∀ c ∈ (decS q).1.chunks, c.size = 32 from fun h => (good_parts (decS_back h).1).2.2.2.2)
    generalize decS q = de at *
    obtain ⟨⟨tm, tag, par, sz, l⟩, k⟩ := de
    unfold manV
    simp only at HU2 HC2 HS2 H32 ⊢
    have HB3 := Lib.hid (HB2.out.alloc (HB2.out.size) (.cells #[.int .i64 tm, .string tag, .string par, .int .i64 sz, .slice A l.length c] 32))
    have HK3 := Lib.hid (HK2.out.alloc (.cells #[.int .i64 tm, .string tag, .string par, .int .i64 sz, .slice A l.length c] 32))
    have HN3 := Lib.hid (Blk.new w2 32 #[.int .i64 tm, .string tag, .string par, .int .i64 sz, .slice A l.length c])
    have HS3 := Lib.hid (strsA_up HS2.out ((Below.refl w2.heap.size w2).alloc (Nat.le_refl _) (.cells #[.int .i64 tm, .string tag, .string par, .int .i64 sz, .slice A l.length c] 32)))
    clear HB2
    have r0 : (w2.alloc (.cells #[.int .i64 tm, .string tag, .string par, .int .i64 sz, .slice A l.length c] 32)).cell? ⟨w.heap.size, 0, none⟩ = some (.int .i64 0) := HK3.out.cell 0
    have u0 : (w2.alloc (.cells #[.int .i64 tm, .string tag, .string par, .int .i64 sz, .slice A l.length c] 32)).frozen? ⟨w.heap.size, 0, none⟩ = false := HK3.out.frozen 0
    have r1 : (w2.alloc (.cells #[.int .i64 tm, .string tag, .string par, .int .i64 sz, .slice A l.length c] 32)).cell? ⟨w.heap.size, 1, none⟩ = some (.string ⟨#[]⟩) := HK3.out.cell 1
    have u1 : (w2.alloc (.cells #[.int .i64 tm, .string tag, .string par, .int .i64 sz, .slice A l.length c] 32)).frozen? ⟨w.heap.size, 1, none⟩ = false := HK3.out.frozen 1
    have r2 : (w2.alloc (.cells #[.int .i64 tm, .string tag, .string par, .int .i64 sz, .slice A l.length c] 32)).cell? ⟨w.heap.size, 2, none⟩ = some (.string ⟨#[]⟩) := HK3.out.cell 2
    have u2 : (w2.alloc (.cells #[.int .i64 tm, .string tag, .string par, .int .i64 sz, .slice A l.length c] 32)).frozen? ⟨w.heap.size, 2, none⟩ = false := HK3.out.frozen 2
    have r3 : (w2.alloc (.cells #[.int .i64 tm, .string tag, .string par, .int .i64 sz, .slice A l.length c] 32)).cell? ⟨w.heap.size, 3, none⟩ = some (.int .i64 0) := HK3.out.cell 3
    have u3 : (w2.alloc (.cells #[.int .i64 tm, .string tag, .string par, .int .i64 sz, .slice A l.length c] 32)).frozen? ⟨w.heap.size, 3, none⟩ = false := HK3.out.frozen 3
    have r4 : (w2.alloc (.cells #[.int .i64 tm, .string tag, .string par, .int .i64 sz, .slice A l.length c] 32)).cell? ⟨w.heap.size, 4, none⟩ = some (.slice none 0 0) := HK3.out.cell 4
    have u4 : (w2.alloc (.cells #[.int .i64 tm, .string tag, .string par, .int .i64 sz, .slice A l.length c] 32)).frozen? ⟨w.heap.size, 4, none⟩ = false := HK3.out.frozen 4
    have c0 : (w2.alloc (.cells #[.int .i64 tm, .string tag, .string par, .int .i64 sz, .slice A l.length c] 32)).cell? ⟨w2.heap.size, 0, none⟩ = some (.int .i64 tm) := HN3.out.cell 0
    by_cases hk : k = 0
    · subst hk
      have HU3 := Lib.hid (show ans = (⟨tm, tag, par, sz, l⟩, 0) from by rw [HU2.out]; simp)
      clear HU2
      have hlt := HN3.out.lt
      go_wp2
      refine bodyPost_ret (v := .tuple #[.agg #[.int .i64 tm, .string tag, .string par, .int .i64 sz, .slice A l.length c], .int .i64 0]) (by simp [results, Tryz.results12, go_sem, r0, r1, r2, r3, r4]) rfl ?_
      refine ⟨A, c, by rw [HU3.out]; rfl, ?_, (((((HB3.out.setCell (p := ⟨w.heap.size, 0, none⟩) (Nat.le_refl _) _).setCell (p := ⟨w.heap.size, 1, none⟩) (Nat.le_refl _) _).setCell (p := ⟨w.heap.size, 2, none⟩) (Nat.le_refl _) _).setCell (p := ⟨w.heap.size, 3, none⟩) (Nat.le_refl _) _).setCell (p := ⟨w.heap.size, 4, none⟩) (Nat.le_refl _) _), by rw [HU3.out]; exact HC2.out⟩
      rw [HU3.out]
      intro hl
      obtain ⟨g, o, e1, e3, e4⟩ := HS2.out hl
      refine ⟨g, o, e1, by simp; omega, fun j u hj => ?_⟩
      have hne : g ≠ w.heap.size := fun e => by
        obtain ⟨u0, hu0⟩ : ∃ u0, l[0]? = some u0 := ⟨l[0], List.getElem?_eq_getElem hl⟩
        have h1 := e4 0 u0 hu0
        rw [e, HK2.out.cell] at h1
        have h2 := zero_text _ u0 h1
        have h3 := H32.out trivial u0 (List.mem_of_getElem? hu0)
        omega
      rw [← e4 j u hj]
      refine World.cell?_of_block ?_
      rw [Below.heap_setCell _ _ _ _ hne, Below.heap_setCell _ _ _ _ hne, Below.heap_setCell _ _ _ _ hne, Below.heap_setCell _ _ _ _ hne, Below.heap_setCell _ _ _ _ hne]
      exact Below.heap_alloc w2 _ g e3
    · have hq := bne0' hk
      have HU3 := Lib.hid (show ans = (noMan, 13) from by rw [HU2.out]; simp [hk])
      clear HU2
      go_wp2
      refine bodyPost_ret (v := .tuple #[.agg #[.int .i64 0, .string ⟨#[]⟩, .string ⟨#[]⟩, .int .i64 0, .slice none 0 0], .int .i64 13]) (by simp [results, Tryz.results12, go_sem, r0, r1, r2, r3, r4]) rfl ?_
      refine ⟨none, 0, by rw [HU3.out]; rfl, ?_, (((((HB3.out.setCell (p := ⟨w.heap.size, 0, none⟩) (Nat.le_refl _) _).setCell (p := ⟨w.heap.size, 1, none⟩) (Nat.le_refl _) _).setCell (p := ⟨w.heap.size, 2, none⟩) (Nat.le_refl _) _).setCell (p := ⟨w.heap.size, 3, none⟩) (Nat.le_refl _) _).setCell (p := ⟨w.heap.size, 4, none⟩) (Nat.le_refl _) _), ?_⟩
      · rw [HU3.out]; exact fun h => absurd h (by simp [noMan])
      · rw [HU3.out]; simp [noMan]
  · have hq := bne0' h0
    have HU2 := Lib.hid (show ans = (noMan, r) from by rw [HU.out]; simp [h0])
    clear HU HDE
    go_wp2
    refine bodyPost_ret (v := .tuple #[.agg #[.int .i64 0, .string ⟨#[]⟩, .string ⟨#[]⟩, .int .i64 0, .slice none 0 0], .int .i64 r]) (by simp [results, Tryz.results12, go_sem, r0, r1, r2, r3, r4]) rfl ?_
    refine ⟨none, 0, by rw [HU2.out]; rfl, ?_, (((((HB1.out.setCell (p := ⟨w.heap.size, 0, none⟩) (Nat.le_refl _) _).setCell (p := ⟨w.heap.size, 1, none⟩) (Nat.le_refl _) _).setCell (p := ⟨w.heap.size, 2, none⟩) (Nat.le_refl _) _).setCell (p := ⟨w.heap.size, 3, none⟩) (Nat.le_refl _) _).setCell (p := ⟨w.heap.size, 4, none⟩) (Nat.le_refl _) _), ?_⟩
    · rw [HU2.out]; exact fun h => absurd h (by simp [noMan])
    · rw [HU2.out]; simp [noMan]
end Go.Proofs.YtpeepdkeicgkiaaGreatDoor
