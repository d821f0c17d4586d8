/- Manifests: writing, the program's. -/
import Derived.Test.YtbjompcaekbjoaaDoorMb
import Derived.Deep.RegionHeld3
namespace Go.Proofs.YtbjompcaekbjoaaDoor
open Go.RowKit

theorem var_size (x : Nat) : (⟨(varL x).toArray⟩ : ByteArray).size ≤ 11 := by
  have := (varF_len 10 x).2
  show (varL x).toArray.size ≤ 11
  simpa [varL] using this
set_option maxRecDepth 100000 in
set_option maxHeartbeats 400000 in
theorem mtext_any (s : ByteArray) (w : World) (hs : s.size ≤ 140737488355328) : Calls Tryd.prog 57 #[.string s] w fun e w' => e = .returned (.string (bs (textL s))) ∧ Below w.heap.size w w' := by
  have H1 := Lib.hid fun W => var_any s.size W (by omega)
  have hv := var_size s.size
  have HE := Lib.hid (show (⟨(varL s.size).toArray⟩ : ByteArray) ++ s = bs (textL s) by
    apply ba_inj
    rw [bs_list]
    unfold textL
    simp [ByteArray.data_append])
  have hu : IntKind.u64.wrap (s.size : Int) = (s.size : Int) := IntWalk.u64_in _ (by omega)
  generalize (⟨(varL s.size).toArray⟩ : ByteArray) = v at *
  have hz : v.size + s.size ≤ 281474976710656 := by omega
  go_enter Tryd.func57, Tryd.ntmps57
  go_wp2_with fail
  refine (H1.out _).mono ?_
  rintro e w1 ⟨rfl, hb⟩
  go_wp2
  go_ret
  exact ⟨ret_str HE.out, hb⟩
theorem ret_si {k : IntKind} {a b : ByteArray} {c d : Int} (h1 : a = b) (h2 : c = d) : Ending.returned (.tuple #[.string a, .int k c]) = .returned (.tuple #[.string b, .int k d]) := by rw [h1, h2]
/-- what Encode gives -/
def encR (m : Man) : ByteArray × Int := if goodM m = true then (bs (manL m), 0) else (⟨#[]⟩, 4)
theorem join_cat (l : List ByteArray) : Lib.join (l.map (·.data.toList)) (⟨#[]⟩ : ByteArray).data.toList = catL l := by
  unfold Lib.join catL
  have e : (⟨#[]⟩ : ByteArray).data.toList = [] := rfl
  rw [e]
  generalize l.map (·.data.toList) = x
  unfold List.intercalate
  induction x with
  | nil => rfl
  | cons a r ih =>
    cases r with
    | nil => simp
    | cons b r => simp only [List.intersperse_cons_cons, List.flatten_cons, List.nil_append] at ih ⊢; rw [ih]
theorem cat_len (l : List ByteArray) (h : ∀ c ∈ l, c.size = 32) : (catL l).length = 32 * l.length := by
  induction l with
  | nil => rfl
  | cons c l ih =>
    have e : catL (c :: l) = c.data.toList ++ catL l := by simp [catL]
    rw [e, List.length_append, ba_len, h c (by simp), ih (fun x hx => h x (by simp [hx])), List.length_cons]
    omega
/-- five cells held beside a call that makes memory -/
theorem keep5 {w W W' : World} {g : Nat} {a0 a1 a2 a3 a4 : Value} (h : W.cell? ⟨g, 0, none⟩ = some a0 ∧ W.cell? ⟨g, 1, none⟩ = some a1 ∧ W.cell? ⟨g, 2, none⟩ = some a2 ∧ W.cell? ⟨g, 3, none⟩ = some a3 ∧ W.cell? ⟨g, 4, none⟩ = some a4 ∧ Below w.heap.size w W) (hb : Below W.heap.size W W') :
    W'.cell? ⟨g, 0, none⟩ = some a0 ∧ W'.cell? ⟨g, 1, none⟩ = some a1 ∧ W'.cell? ⟨g, 2, none⟩ = some a2 ∧ W'.cell? ⟨g, 3, none⟩ = some a3 ∧ W'.cell? ⟨g, 4, none⟩ = some a4 ∧ Below w.heap.size w W' := by
  obtain ⟨h0, h1, h2, h3, h4, h5⟩ := h
  have hlt := cellLt h0
  exact ⟨(hb.cell (p := ⟨g, 0, none⟩) hlt).trans h0, (hb.cell (p := ⟨g, 1, none⟩) hlt).trans h1, (hb.cell (p := ⟨g, 2, none⟩) hlt).trans h2, (hb.cell (p := ⟨g, 3, none⟩) hlt).trans h3, (hb.cell (p := ⟨g, 4, none⟩) hlt).trans h4, h5.trans (hb.mono h5.size)⟩
theorem keepB {w W : World} {g : Nat} {a0 a1 a2 a3 a4 : Value} (h : W.cell? ⟨g, 0, none⟩ = some a0 ∧ W.cell? ⟨g, 1, none⟩ = some a1 ∧ W.cell? ⟨g, 2, none⟩ = some a2 ∧ W.cell? ⟨g, 3, none⟩ = some a3 ∧ W.cell? ⟨g, 4, none⟩ = some a4 ∧ Below w.heap.size w W) : Below w.heap.size w W := h.2.2.2.2.2
set_option maxRecDepth 100000 in
set_option maxHeartbeats 1600000 in
theorem mencode_any (m : Man) (A : Option Addr) (c : Nat) (w : World) (he : Env w) (hst : StrsA w w.heap.size A m.chunks) (hb : ManB m) (hc : m.chunks.length ≤ c) :
    Calls Tryd.prog 16 #[manV m A c] w fun e w' => e = .returned (.tuple #[.string (encR m).1, .int .i64 (encR m).2]) ∧ Below w.heap.size w w' := by
  have hb0 : Below w.heap.size w (w.alloc (.cells #[.int .i64 m.time, .string m.tag, .string m.parent, .int .i64 m.size, .slice A m.chunks.length c] 24)) := (Below.refl w.heap.size w).alloc (Nat.le_refl _) _
  have hst0 : StrsA (w.alloc (.cells #[.int .i64 m.time, .string m.tag, .string m.parent, .int .i64 m.size, .slice A m.chunks.length c] 24)) (w.alloc (.cells #[.int .i64 m.time, .string m.tag, .string m.parent, .int .i64 m.size, .slice A m.chunks.length c] 24)).heap.size A m.chunks := fun h => by
    obtain ⟨bk, o, h1, h2, h3⟩ := hst h
    exact ⟨bk, o, h1, by simp; omega, fun j u hj => (hb0.cell (p := ⟨bk, o + j, none⟩) h2).trans (h3 j u hj)⟩
  have HCK := Lib.hid (mcheck_any m A c _ (he.below hb0) hst0 hb)
  have HBL := Lib.hid (Blk.new w 24 #[.int .i64 m.time, .string m.tag, .string m.parent, .int .i64 m.size, .slice A m.chunks.length c])
  have HB0 := Lib.hid hb0
  unfold manV at HCK
  clear hst0 hb0
  cases hg : goodM m with
  | false =>
    have HX := Lib.hid (show encR m = (⟨#[]⟩, 4) by unfold encR; rw [hg]; rfl)
    rw [hg] at HCK
    unfold manV
    clear hg
    go_enter Tryd.func16, Tryd.ntmps16
    go_wp2_with fail
    refine HCK.out.mono ?_
    rintro e w1 ⟨rfl, hb1⟩
    have hq : (errI false != 0) = true := rfl
    go_wp2
    go_ret2
    exact ⟨by rw [HX.out]; rfl, HB0.out.trans (hb1.mono HB0.out.size)⟩
  | true =>
    have HX := Lib.hid (show encR m = (bs (manL m), 0) by unfold encR; rw [hg]; rfl)
    rw [hg] at HCK
    obtain ⟨⟨t1, t2⟩, g1, p1, ⟨z1, z2, c1, c2⟩, h32⟩ := good_parts hg
    obtain ⟨bk, off, rfl, hbk, hcell⟩ := hst (by omega)
    have HHC := Lib.hid hcell
    have HTXT := Lib.hid (show manL m = [115, 110, 97, 112] ++ varL m.time.toNat ++ textL m.tag ++ textL m.parent ++ varL m.size.toNat ++ varL m.chunks.length ++ catL m.chunks from rfl)
    have hjl := cat_len m.chunks h32
    have hj1 := Tryd.strings_Join bk off c m.chunks ⟨#[]⟩
    rw [join_cat] at hj1
    clear hcell h32 hst hb
    generalize manL m = mL at *
    obtain ⟨tm, tag, par, sz, l⟩ := m
    unfold manV
    simp only at *
    clear hg
    obtain ⟨tn, rfl⟩ : ∃ n : Nat, tm = (n : Int) := ⟨tm.toNat, by omega⟩
    obtain ⟨sn, rfl⟩ : ∃ n : Nat, sz = (n : Int) := ⟨sz.toNat, by omega⟩
    have hvar : ∀ n : Nat, n ≤ 253402300799 → ∃ v : ByteArray, v.data.toList = varL n ∧ v.size ≤ 11 ∧ ∀ W, Calls Tryd.prog 56 #[.int .u64 n] W fun e w' => e = .returned (.string v) ∧ Below W.heap.size W w' := fun n hn => ⟨⟨(varL n).toArray⟩, by simp, var_size n, fun W => var_any n W (by omega)⟩
    have htxt : ∀ s : ByteArray, s.size ≤ 100 → ∃ v : ByteArray, v.data.toList = textL s ∧ v.size ≤ 111 ∧ ∀ W, Calls Tryd.prog 57 #[.string s] W fun e w' => e = .returned (.string v) ∧ Below W.heap.size W w' := fun s hs => ⟨bs (textL s), bs_list _, by
      have h1 := (varF_len 10 s.size).2
      have h2 : (varL s.size).length ≤ 11 := h1
      rw [bs_size]; unfold textL; rw [List.length_append, ba_len]; omega, fun W => mtext_any s W (by omega)⟩
    obtain ⟨v1, e1, s1, H1⟩ := hvar tn (by omega)
    obtain ⟨v2, e2, s2, H2⟩ := hvar sn (by omega)
    obtain ⟨v3, e3, s3, H3⟩ := hvar l.length (by omega)
    obtain ⟨x1, f1, r1, K1⟩ := htxt tag (by omega)
    obtain ⟨x2, f2, r2, K2⟩ := htxt par (by omega)
    clear hvar htxt
    have HV1 := Lib.hid H1
    have HV2 := Lib.hid H2
    have HV3 := Lib.hid H3
    have HX1 := Lib.hid K1
    have HX2 := Lib.hid K2
    clear H1 H2 H3 K1 K2
    obtain ⟨jj, hjj⟩ : ∃ v : ByteArray, v = ⟨(catL l).toArray⟩ := ⟨_, rfl⟩
    have hjz : jj.size = 32 * l.length := by rw [hjj, ← hjl]; exact List.size_toArray
    have HJ := Lib.hid fun W h1 h2 => hj1 W h1 h2 (by omega) (by omega) (by omega)
    rw [← hjj] at HJ
    have HE := Lib.hid (show (⟨#[115, 110, 97, 112]⟩ : ByteArray) ++ v1 ++ x1 ++ x2 ++ v2 ++ v3 ++ jj = bs mL by
      apply ba_inj
      rw [bs_list, HTXT.out]
      simp only [ByteArray.data_append, Array.toList_append, e1, e2, e3, f1, f2, hjj, Int.toNat_natCast])
    have p0 : (⟨#[115, 110, 97, 112]⟩ : ByteArray).size = 4 := rfl
    have y1 := fun W => run_string_add_sum (P := Tryd.prog) W (⟨#[115, 110, 97, 112]⟩ : ByteArray) v1 (by first | omega | (simp only [ByteArray.size_append]; omega))
    have y2 := fun W => run_string_add_sum (P := Tryd.prog) W ((⟨#[115, 110, 97, 112]⟩ : ByteArray) ++ v1) x1 (by first | omega | (simp only [ByteArray.size_append]; omega))
    have y3 := fun W => run_string_add_sum (P := Tryd.prog) W ((⟨#[115, 110, 97, 112]⟩ : ByteArray) ++ v1 ++ x1) x2 (by first | omega | (simp only [ByteArray.size_append]; omega))
    have y4 := fun W => run_string_add_sum (P := Tryd.prog) W ((⟨#[115, 110, 97, 112]⟩ : ByteArray) ++ v1 ++ x1 ++ x2) v2 (by first | omega | (simp only [ByteArray.size_append]; omega))
    have y5 := fun W => run_string_add_sum (P := Tryd.prog) W ((⟨#[115, 110, 97, 112]⟩ : ByteArray) ++ v1 ++ x1 ++ x2 ++ v2) v3 (by first | omega | (simp only [ByteArray.size_append]; omega))
    have y6 := fun W => run_string_add_sum (P := Tryd.prog) W ((⟨#[115, 110, 97, 112]⟩ : ByteArray) ++ v1 ++ x1 ++ x2 ++ v2 ++ v3) jj (by first | omega | (simp only [ByteArray.size_append]; omega))
    have u1 : IntKind.u64.wrap (tn : Int) = (tn : Int) := IntWalk.u64_in _ (by omega)
    have u2 : IntKind.u64.wrap (sn : Int) = (sn : Int) := IntWalk.u64_in _ (by omega)
    have u3 : IntKind.u64.wrap (l.length : Int) = (l.length : Int) := IntWalk.u64_in _ (by omega)
    clear hj1 hjj hjl hjz e1 e2 e3 f1 f2 p0 s1 s2 s3 r1 r2
    go_enter Tryd.func16, Tryd.ntmps16
    go_wp2_with fail
    refine HCK.out.mono ?_
    rintro e w1 ⟨rfl, hb1⟩
    have hq : (errI true != 0) = false := rfl
    have HB1 := Lib.hid (HB0.out.trans (hb1.mono HB0.out.size))
    have HBL1 := Lib.hid (HBL.out.below hb1 (by simp))
    clear hb1 HCK
    have hS : w1.cell? ⟨w.heap.size, 0, none⟩ = some (.int .i64 tn) ∧ w1.cell? ⟨w.heap.size, 1, none⟩ = some (.string tag) ∧ w1.cell? ⟨w.heap.size, 2, none⟩ = some (.string par) ∧ w1.cell? ⟨w.heap.size, 3, none⟩ = some (.int .i64 sn) ∧ w1.cell? ⟨w.heap.size, 4, none⟩ = some (.slice (some ⟨bk, off, none⟩) l.length c) ∧ Below w.heap.size w w1 := ⟨HBL1.out.cell 0, HBL1.out.cell 1, HBL1.out.cell 2, HBL1.out.cell 3, HBL1.out.cell 4, HB1.out⟩
    have HS := Lib.hid hS
    clear hS
    go_upto_region 4 with fail
    go_region_held3 (fun W => W.cell? ⟨w.heap.size, 0, none⟩ = some (.int .i64 tn) ∧ W.cell? ⟨w.heap.size, 1, none⟩ = some (.string tag) ∧ W.cell? ⟨w.heap.size, 2, none⟩ = some (.string par) ∧ W.cell? ⟨w.heap.size, 3, none⟩ = some (.int .i64 sn) ∧ W.cell? ⟨w.heap.size, 4, none⟩ = some (.slice (some ⟨bk, off, none⟩) l.length c) ∧ Below w.heap.size w W)
      (first | exact hk3 | exact keep5 HS.out (Below.refl _ _).drew | exact HS.out)
      (first
        | (go_at_call 56; ((with_reducible refine (HV1.out _).mono ?_); rintro e w3 ⟨rfl, hb3⟩; have hk3 := keep5 (by assumption) hb3))
        | (go_at_call 56; ((with_reducible refine (HV2.out _).mono ?_); rintro e w3 ⟨rfl, hb3⟩; have hk3 := keep5 (by assumption) hb3))
        | (go_at_call 56; ((with_reducible refine (HV3.out _).mono ?_); rintro e w3 ⟨rfl, hb3⟩; have hk3 := keep5 (by assumption) hb3))
        | (go_at_call 57; ((with_reducible refine (HX1.out _).mono ?_); rintro e w3 ⟨rfl, hb3⟩; have hk3 := keep5 (by assumption) hb3))
        | (go_at_call 57; ((with_reducible refine (HX2.out _).mono ?_); rintro e w3 ⟨rfl, hb3⟩; have hk3 := keep5 (by assumption) hb3))
        | (go_at_call 58; ((with_reducible refine (HJ.out _ ?_ ?_).mono ?_); (intro j u hj; exact ((keepB (w := w) (g := w.heap.size) (by assumption)).cell (p := ⟨bk, off + j, none⟩) hbk).trans (HHC.out j u hj)); (exact Nat.lt_of_lt_of_le hbk (keepB (w := w) (g := w.heap.size) (by assumption)).size); rintro e w3 ⟨rfl, hb3⟩; have hk3 := keep5 (by assumption) hb3)))
    go_wp2
    go_ret2
    exact ⟨ret_si (by rw [HX.out]; exact HE.out) (by rw [HX.out]), keepB hk3⟩
end Go.Proofs.YtbjompcaekbjoaaDoor
