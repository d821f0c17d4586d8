/- Manifests: the document's Text. -/
import Derived.Test.YtbjompcaekbjoaaDoorMd
namespace Go.Proofs.YtbjompcaekbjoaaDoor
open Go.RowKit

set_option maxRecDepth 100000 in
set_option maxHeartbeats 400000 in
theorem rnum_any (n : Nat) (w : World) (hn : n ≤ 9223372036854775807) : Calls Tryd.prog 64 #[.int .i64 n] w fun e w' => e = .returned (.string ⟨(varL n).toArray⟩) ∧ Below w.heap.size w w' := by
  have H1 := Lib.hid fun W => refvar_any n W (by omega)
  have hu : IntKind.u64.wrap (n : Int) = (n : Int) := IntWalk.u64_in _ (by omega)
  clear hn
  go_enter Tryd.func64, Tryd.ntmps64
  go_wp2_with fail
  refine (H1.out _).mono ?_
  rintro e w1 ⟨rfl, hb⟩
  go_wp2
  go_ret
  exact ⟨rfl, hb⟩
theorem cat_snoc (l : List ByteArray) (k : Nat) (h : k < l.length) : catL (l.take (k + 1)) = catL (l.take k) ++ l[k].data.toList := by
  rw [List.take_succ_eq_append_getElem h]
  unfold catL
  rw [List.map_append, List.flatten_append]
  simp only [List.map_cons, List.map_nil, List.flatten_cons, List.flatten_nil, List.append_nil]
set_option maxRecDepth 100000 in
set_option maxHeartbeats 3200000 in
theorem rtext_any (m : Man) (A : Option Addr) (c : Nat) (w : World) (hst : StrsA w w.heap.size A m.chunks) (hg : goodM m = true) :
    Calls Tryd.prog 21 #[manV m A c] w fun e w' => e = .returned (.string (bs (manL m))) ∧ Below w.heap.size w w' := by
  have hb0 : Below w.heap.size w (w.alloc (.cells #[.int .i64 m.time, .string m.tag, .string m.parent, .int .i64 m.size, .slice A m.chunks.length c] 30)) := (Below.refl w.heap.size w).alloc (Nat.le_refl _) _
  have HBL := Lib.hid (Blk.new w 30 #[.int .i64 m.time, .string m.tag, .string m.parent, .int .i64 m.size, .slice A m.chunks.length c])
  have HB0 := Lib.hid hb0
  clear hb0
  obtain ⟨⟨t1, t2⟩, g1, p1, ⟨z1, z2, c1, c2⟩, h32⟩ := good_parts hg
  obtain ⟨bk, off, rfl, hbk, hcell⟩ := hst (by omega)
  have HHC := Lib.hid hcell
  have H32 := Lib.hid h32
  have HTXT := Lib.hid (show manL m = [115, 110, 97, 112] ++ varL m.time.toNat ++ textL m.tag ++ textL m.parent ++ varL m.size.toNat ++ varL m.chunks.length ++ catL m.chunks from rfl)
  clear hcell h32 hst hg
  generalize manL m = mL at *
  obtain ⟨tm, tag, par, sz, l⟩ := m
  unfold manV
  simp only at *
  obtain ⟨tn, rfl⟩ : ∃ n : Nat, tm = (n : Int) := ⟨tm.toNat, by omega⟩
  obtain ⟨sn, rfl⟩ : ∃ n : Nat, sz = (n : Int) := ⟨sz.toNat, by omega⟩
  have hvar : ∀ n : Nat, n ≤ 253402300799 → ∃ v : ByteArray, v.data.toList = varL n ∧ v.size ≤ 11 ∧ ∀ W, Calls Tryd.prog 64 #[.int .i64 n] W fun e w' => e = .returned (.string v) ∧ Below W.heap.size W w' := fun n hn => ⟨⟨(varL n).toArray⟩, by simp, var_size n, fun W => rnum_any n W (by omega)⟩
  obtain ⟨v1, e1, s1, H1⟩ := hvar tn (by omega)
  obtain ⟨v2, e2, s2, H2⟩ := hvar sn (by omega)
  obtain ⟨v3, e3, s3, H3⟩ := hvar l.length (by omega)
  obtain ⟨x1, f1, r1, K1⟩ := hvar tag.size (by omega)
  obtain ⟨x2, f2, r2, K2⟩ := hvar par.size (by omega)
  clear hvar
  have HV1 := Lib.hid H1
  have HV2 := Lib.hid H2
  have HV3 := Lib.hid H3
  have HX1 := Lib.hid K1
  have HX2 := Lib.hid K2
  clear H1 H2 H3 K1 K2
  have HE := Lib.hid (show ((⟨#[115, 110, 97, 112]⟩ : ByteArray) ++ v1 ++ x1 ++ tag ++ x2 ++ par ++ v2 ++ v3).data.toList ++ catL l = mL by
    rw [HTXT.out]
    unfold textL
    simp only [ByteArray.data_append, Array.toList_append, e1, e2, e3, f1, f2, Int.toNat_natCast, List.append_assoc])
  have p0 : (⟨#[115, 110, 97, 112]⟩ : ByteArray).size = 4 := rfl
  have hz : ((⟨#[115, 110, 97, 112]⟩ : ByteArray) ++ v1 ++ x1 ++ tag ++ x2 ++ par ++ v2 ++ v3).size ≤ 1000 := by simp only [ByteArray.size_append]; omega
  have y1 := fun W => run_string_add_sum (P := Tryd.prog) W (⟨#[115, 110, 97, 112]⟩ : ByteArray) v1 (by first | omega | (simp only [ByteArray.size_append]; omega))
  have y2 := fun W => run_string_add_sum (P := Tryd.prog) W ((⟨#[115, 110, 97, 112]⟩ : ByteArray) ++ v1) x1 (by first | omega | (simp only [ByteArray.size_append]; omega))
  have y3 := fun W => run_string_add_sum (P := Tryd.prog) W ((⟨#[115, 110, 97, 112]⟩ : ByteArray) ++ v1 ++ x1) tag (by first | omega | (simp only [ByteArray.size_append]; omega))
  have y4 := fun W => run_string_add_sum (P := Tryd.prog) W ((⟨#[115, 110, 97, 112]⟩ : ByteArray) ++ v1 ++ x1 ++ tag) x2 (by first | omega | (simp only [ByteArray.size_append]; omega))
  have y5 := fun W => run_string_add_sum (P := Tryd.prog) W ((⟨#[115, 110, 97, 112]⟩ : ByteArray) ++ v1 ++ x1 ++ tag ++ x2) par (by first | omega | (simp only [ByteArray.size_append]; omega))
  have y6 := fun W => run_string_add_sum (P := Tryd.prog) W ((⟨#[115, 110, 97, 112]⟩ : ByteArray) ++ v1 ++ x1 ++ tag ++ x2 ++ par) v2 (by first | omega | (simp only [ByteArray.size_append]; omega))
  have y7 := fun W => run_string_add_sum (P := Tryd.prog) W ((⟨#[115, 110, 97, 112]⟩ : ByteArray) ++ v1 ++ x1 ++ tag ++ x2 ++ par ++ v2) v3 (by first | omega | (simp only [ByteArray.size_append]; omega))
  have HSZ := Lib.hid hz
  clear e1 e2 e3 f1 f2 p0 s1 s2 s3 r1 r2 hz
  go_enter Tryd.func21, Tryd.ntmps21
  have hS : (w.alloc (.cells #[.int .i64 tn, .string tag, .string par, .int .i64 sn, .slice (some ⟨bk, off, none⟩) l.length c] 30)).cell? ⟨w.heap.size, 0, none⟩ = some (.int .i64 tn) ∧ (w.alloc (.cells #[.int .i64 tn, .string tag, .string par, .int .i64 sn, .slice (some ⟨bk, off, none⟩) l.length c] 30)).cell? ⟨w.heap.size, 1, none⟩ = some (.string tag) ∧ (w.alloc (.cells #[.int .i64 tn, .string tag, .string par, .int .i64 sn, .slice (some ⟨bk, off, none⟩) l.length c] 30)).cell? ⟨w.heap.size, 2, none⟩ = some (.string par) ∧ (w.alloc (.cells #[.int .i64 tn, .string tag, .string par, .int .i64 sn, .slice (some ⟨bk, off, none⟩) l.length c] 30)).cell? ⟨w.heap.size, 3, none⟩ = some (.int .i64 sn) ∧ (w.alloc (.cells #[.int .i64 tn, .string tag, .string par, .int .i64 sn, .slice (some ⟨bk, off, none⟩) l.length c] 30)).cell? ⟨w.heap.size, 4, none⟩ = some (.slice (some ⟨bk, off, none⟩) l.length c) ∧ Below w.heap.size w (w.alloc (.cells #[.int .i64 tn, .string tag, .string par, .int .i64 sn, .slice (some ⟨bk, off, none⟩) l.length c] 30)) := ⟨HBL.out.cell 0, HBL.out.cell 1, HBL.out.cell 2, HBL.out.cell 3, HBL.out.cell 4, HB0.out⟩
  have HS := Lib.hid hS
  clear hS
  go_upto_region 1 with fail
  go_region_held3 (fun W => W.cell? ⟨w.heap.size, 0, none⟩ = some (.int .i64 tn) ∧ W.cell? ⟨w.heap.size, 1, none⟩ = some (.string tag) ∧ W.cell? ⟨w.heap.size, 2, none⟩ = some (.string par) ∧ W.cell? ⟨w.heap.size, 3, none⟩ = some (.int .i64 sn) ∧ W.cell? ⟨w.heap.size, 4, none⟩ = some (.slice (some ⟨bk, off, none⟩) l.length c) ∧ Below w.heap.size w W)
    (first | exact hk3 | exact keep5 HS.out (Below.refl _ _).drew | exact HS.out)
    (first
      | (go_at_call 64; ((with_reducible refine (HV1.out _).mono ?_); rintro e w3 ⟨rfl, hb3⟩; have hk3 := keep5 (by assumption) hb3))
      | (go_at_call 64; ((with_reducible refine (HV2.out _).mono ?_); rintro e w3 ⟨rfl, hb3⟩; have hk3 := keep5 (by assumption) hb3))
      | (go_at_call 64; ((with_reducible refine (HV3.out _).mono ?_); rintro e w3 ⟨rfl, hb3⟩; have hk3 := keep5 (by assumption) hb3))
      | (go_at_call 64; ((with_reducible refine (HX1.out _).mono ?_); rintro e w3 ⟨rfl, hb3⟩; have hk3 := keep5 (by assumption) hb3))
      | (go_at_call 64; ((with_reducible refine (HX2.out _).mono ?_); rintro e w3 ⟨rfl, hb3⟩; have hk3 := keep5 (by assumption) hb3)))
  obtain ⟨k0, k1, k2, k3, k4, hbw⟩ := hk3
  have HBW := Lib.hid hbw
  have HC := Lib.hid fun (j : Nat) (u : ByteArray) (hj : l[j]? = some u) => (hbw.cell (p := ⟨bk, off + j, none⟩) hbk).trans (HHC.out j u hj)
  clear hbw hb3 y1 y2 y3 y4 y5 y6 y7
  generalize ((⟨#[115, 110, 97, 112]⟩ : ByteArray) ++ v1 ++ x1 ++ tag ++ x2 ++ par ++ v2 ++ v3) = hd at *
  go_wp2
  go_loop [3, 38] (fun a t => ∃ (k : Nat) (acc : ByteArray), a = .string acc ∧ t = .int .i64 (k : Nat) ∧ k ≤ l.length ∧ acc.data.toList = hd.data.toList ++ catL (l.take k) ∧ acc.size ≤ 1000 + 32 * k) (fun _ t => l.length - (intOf t).toNat)
  case atStart => exact ⟨0, hd, rfl, rfl, Nat.zero_le _, by simp [catL], by have := HSZ.out; omega⟩
  case round =>
    obtain ⟨k, acc, rfl, rfl, hk, hac, haz⟩ := hrel
    have HAC := Lib.hid hac
    clear hac
    by_cases hkl : k < l.length
    · have hcx := HC.out k l[k] (List.getElem?_eq_getElem hkl)
      have HSN := Lib.hid (cat_snoc l k hkl)
      have hz := H32.out l[k] (List.getElem_mem hkl)
      generalize l[k] = x at *
      have y1 := fun W => run_string_add_sum (P := Tryd.prog) W acc x (by omega)
      go_wp2
      go_round
      case rel => exact ⟨k + 1, acc ++ x, rfl, by go_num, by omega, by rw [HSN.out, ByteArray.data_append, Array.toList_append, HAC.out, List.append_assoc], by rw [ByteArray.size_append]; omega⟩
      case measure => simp [intOf]; omega
    · have hke : k = l.length := by omega
      have HF := Lib.hid (show acc = bs mL by
        apply ba_inj
        rw [bs_list, HAC.out, hke, List.take_length]; exact HE.out)
      clear hke
      go_wp2
      go_ret
      exact ⟨ret_str HF.out, HBW.out⟩
end Go.Proofs.YtbjompcaekbjoaaDoor
