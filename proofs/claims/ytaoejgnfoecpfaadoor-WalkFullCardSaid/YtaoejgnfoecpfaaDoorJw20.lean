/- NodeFull, walked. WalkFull, walked. -/
import Derived.Test.YtaoejgnfoecpfaaDoorJw19
import Derived.Test.YtaoejgnfoecpfaaDoorJw14
import Derived.Test.YtaoejgnfoecpfaaDoorJw13
namespace Go.Proofs.YtaoejgnfoecpfaaDoor
set_option linter.unusedVariables false
set_option linter.unusedSimpArgs false
set_option linter.unusedSectionVars false
open Go.RowKit

def folA (n j : Nat) : Value := folV (atF n j) 0 0
theorem folsV (w : World) (n m : Nat) : NodesV w (fun _ => True) ((List.range m).map (folA n)) ((List.range m).map (fF n)) := fun i x hx => by
  rw [List.getElem?_map] at hx
  obtain ⟨j, hj, rfl⟩ := Option.map_eq_some_iff.1 hx
  exact ⟨folA n j, by rw [List.getElem?_map, hj]; rfl, .inl ⟨rfl, rfl⟩, fun _ _ => trivial⟩
theorem run_str2 {P : Program} (w : World) (src dst e : TypeId) (hs : P.underlying src = some (.slice e)) (he : P.underlying e = some (.int .u8)) (hd : P.underlying dst = some .string) (a b : UInt8) : (convert src dst (.slice (some ⟨w.heap.size, 0, none⟩) 2 2)).run P (w.alloc (.cells #[.int .u8 a.toNat, .int .u8 b.toNat] e)) = .ok (.string ⟨#[a, b]⟩) (w.alloc (.cells #[.int .u8 a.toNat, .int .u8 b.toNat] e)) :=
  run_convert_bytes_back _ src dst e ⟨w.heap.size, 0, none⟩ 2 [a, b] hs he hd (fun j hj => by
    have hc := (Blk.new w e #[.int .u8 a.toNat, .int .u8 b.toNat]).cell j
    rw [addr_add, Nat.zero_add, hc]
    match j, hj with
    | 0, _ => rfl
    | 1, _ => rfl)
theorem conv_name (w : World) (k : Nat) (q r : Int) (hk : k < 260) (hq : q = 97 + (k : Int) / 26) (hr : r = 97 + (k : Int) % 26) : (convert 46 9 (.slice (some ⟨w.heap.size, 0, none⟩) 2 2)).run Tryd.prog (w.alloc (.cells #[.int .u8 q, .int .u8 r] 5)) = .ok (.string (deepF k 0)) (w.alloc (.cells #[.int .u8 q, .int .u8 r] 5)) := by
  have h := run_str2 (P := Tryd.prog) w 46 9 5 Tryd.underlying46 Tryd.underlying5 Tryd.underlying9 (UInt8.ofNat (97 + k / 26)) (UInt8.ofNat (97 + k % 26))
  have e1 : ((UInt8.ofNat (97 + k / 26)).toNat : Int) = q := by
    rw [UInt8.toNat_ofNat', hq]
    omega
  have e2 : ((UInt8.ofNat (97 + k % 26)).toNat : Int) = r := by
    rw [UInt8.toNat_ofNat', hr]
    omega
  rw [e1, e2] at h
  exact h
set_option maxRecDepth 100000 in
set_option maxHeartbeats 3200000 in
theorem nfull_in (n deep : Nat) (w : World) (he : Env w) (hn : 1 ≤ n) (hn2 : n ≤ 260) (hd : 1 ≤ deep) (hd2 : deep ≤ 10) :
    Calls Tryd.prog 5 #[.int .i64 n, .int .i64 deep] w fun e w' => e = .returned (.bool true) ∧ Below w.heap.size w w' := by
  have HE := Lib.hid fun W (hb : Below w.heap.size w W) => he.below hb
  have HAW := Lib.hid fun W (h : Env W) => awake12_any W h
  have HCK := Lib.hid (chk_full hn hn2 hd hd2)
  have HEN := Lib.hid (enc_full hn hd)
  clear he
  have a1 : ¬ (n : Int) < 1 := by omega
  have a2 : ¬ (260 : Int) < n := by omega
  have a3 : ¬ (deep : Int) < 1 := by omega
  have a4 : ¬ (10 : Int) < deep := by omega
  go_enter Tryd.func5, Tryd.ntmps5
  go_wp2
  have hb0 := (Below.refl w.heap.size w).alloc (Nat.le_refl _) (.cells #[] 35)
  go_loopw [5, 6] (fun ov iv wr => ∃ (k : Nat) (B : Option Addr) (d : Nat), ov = .slice B k d ∧ iv = .int .i64 (k : Nat) ∧ k ≤ n ∧ wr.ownsRow w.heap.size 35 1 (.slice B k d) k ((List.range k).map (folA n)) ∧ Below w.heap.size w wr) (fun _ iv _ => n - (intOf iv).toNat)
  case atStart => exact ⟨0, some ⟨w.heap.size, 0, none⟩, 0, rfl, rfl, Nat.zero_le _, own_emptyN (Nat.le_refl _), hb0⟩
  case round =>
    obtain ⟨k, B, d, rfl, rfl, hk, how, hbel⟩ := hrel
    have HO := Lib.hid how
    have HB := Lib.hid hbel
    clear how hb0 hbel
    by_cases hkl : k < n
    · as_aux_lemma =>
      have hki : (k : Int) < (n : Int) := by omega
      have hcv := conv_name wr k _ _ (by omega) rfl rfl
      have hb1 := (Below.refl wr.heap.size wr).alloc (Nat.le_refl _) (.cells #[.int .u8 (97 + (k : Int) / 26), .int .u8 (97 + (k : Int) % 26)] 5)
      have HO1 := Lib.hid (own_atN HO.out fun i hi => hb1.block i (HO.out.lt i hi).2)
      have HB1 := Lib.hid (HB.out.trans (hb1.mono HB.out.size))
      have HA := Lib.hid (show deepF k 0 = atF n k by unfold atF; rw [if_pos hkl])
      clear hb1
      go_wp2_with (at_builtin; refine wpList_app1s rfl _ _ 30 rfl w.heap.size 35 Tryd.underlying30 infoNd rfl (by decide) _ _ _ rfl HO1.out _ (by simp) rfl rfl (by simp [Value.oneCell']) (by omega) (by omega) HB1.out.size ?_)
      intro g5 cap5 w5 ho5 hg5 hb5 hl5
      have HO5 := Lib.hid (show w5.ownsRow w.heap.size 35 1 (.slice (some ⟨g5, 0, none⟩) (k + 1) cap5) (k + 1) ((List.range (k + 1)).map (folA n)) by
        rw [List.range_succ, List.map_append]
        have h5 := ho5
        rw [HA.out] at h5
        exact h5)
      have HB5 := Lib.hid (HB1.out.grown hg5 HB1.out.size fun j hj => (HO1.out.lt j hj).1)
      clear ho5 hg5 hb5 hl5
      go_wp2
      go_roundw
      case rel => exact ⟨k + 1, some ⟨g5, 0, none⟩, cap5, rfl, by go_num, by omega, HO5.out, HB5.out⟩
      case measure => simp [intOf]; omega
    · as_aux_lemma =>
      obtain rfl : k = n := by omega
      have hki : ¬ (k : Int) < (k : Int) := by omega
      obtain ⟨m, hm⟩ : ∃ m, k = m + 1 := ⟨k - 1, by omega⟩
      have hm1 : (k : Int) - 1 = (m : Int) := by omega
      have hm2 : m < 260 := by omega
      have HM := Lib.hid hm
      clear hm
      have hcv := conv_name wr m _ _ hm2 rfl rfl
      have hb1 := (Below.refl wr.heap.size wr).alloc (Nat.le_refl _) (.cells #[.int .u8 (97 + (m : Int) / 26), .int .u8 (97 + (m : Int) % 26)] 5)
      have HO1 := Lib.hid (own_atN HO.out fun i hi => hb1.block i (HO.out.lt i hi).2)
      have HB1 := Lib.hid (HB.out.trans (hb1.mono HB.out.size))
      clear hb1 HO HB
      go_wp2
      go_loopw [5, 7, 8] (fun ov sv iv wr => ∃ (i : Nat) (B : Option Addr) (d : Nat), ov = .slice B (k + i) d ∧ sv = .string (deepF m i) ∧ iv = .int .i64 (i + 1 : Nat) ∧ i + 1 ≤ deep ∧ Hid (wr.ownsRow w.heap.size 35 1 (.slice B (k + i) d) (k + i) ((List.range (k + i)).map (folA k))) ∧ Hid (Below w.heap.size w wr)) (fun _ _ iv _ => deep - (intOf iv).toNat)
      case atStart => exact ⟨0, B, d, rfl, rfl, rfl, hd, HO1, HB1⟩
      case round =>
        clear HO1 HB1
        obtain ⟨i, B, d, rfl, rfl, rfl, hi, HO, HB⟩ := hrel
        by_cases hid : i + 1 < deep
        · have hiz : ((i + 1 : Nat) : Int) < (deep : Int) := by omega
          have hsz : (deepF m i).size = 2 + 2 * i := deepF_len m i
          have hcat := fun W => run_string_add_sum (P := Tryd.prog) W (deepF m i) ⟨#[47, 120]⟩ (by rw [hsz]; show 2 + 2 * i + 2 ≤ _; omega)
          have hde : deepF m i ++ ⟨#[47, 120]⟩ = deepF m (i + 1) := by
            apply ba_inj
            unfold deepF
            simp [sxL, ByteArray.data_append]
          have HA := Lib.hid (show deepF m (i + 1) = atF k (k + i) by unfold atF; rw [if_neg (by omega), show k - 1 = m by have := HM.out; omega, show k + i + 1 - k = i + 1 by omega])
          have hb5 := (Below.refl wr.heap.size wr).alloc (Nat.le_refl _) (.cells #[.iface 26 (.agg #[.string (deepF m (i + 1)), .int .i64 0, .int .i64 0])] 35)
          have hbw := HB.out.size
          go_wp2_with (at_builtin; refine wpList_app1 rfl _ _ 30 rfl w.heap.size 35 Tryd.underlying30 infoNd rfl (by decide) _ _ _ rfl HO.out _ rfl rfl (by simp [Value.oneCell']) (by omega) (by omega) hbw ?_)
          intro g5 cap5 w5 ho5 hg5 hbl5 hl5
          have HO5 := Lib.hid (show w5.ownsRow w.heap.size 35 1 (.slice (some ⟨g5, 0, none⟩) (k + (i + 1)) cap5) (k + (i + 1)) ((List.range (k + (i + 1))).map (folA k)) by
            rw [show k + (i + 1) = k + i + 1 by omega, List.range_succ, List.map_append]
            have h5 := ho5
            rw [HA.out] at h5
            exact h5)
          have HB5 := Lib.hid (HB.out.grown hg5 HB.out.size fun j hj => (HO.out.lt j hj).1)
          clear ho5 hg5 hbl5 hl5 hb5
          go_wp2
          go_roundw
          case rel => exact ⟨i + 1, some ⟨g5, 0, none⟩, cap5, rfl, rfl, by go_num, by omega, HO5, HB5⟩
          case measure => simp [intOf]; omega
        · have hiz : ¬ ((i + 1 : Nat) : Int) < (deep : Int) := by omega
          have hid2 : i + 1 = deep := by omega
          have HNA := Lib.hid (show NodesA wr B (lstF k deep) by
            have := (folsV wr k (k + i)).row HO.out
            unfold lstF
            rw [show k + deep - 1 = k + i by omega]
            exact this)
          have hlen : (lstF k deep).length = k + i := by
            unfold lstF
            rw [List.length_map, List.length_range]
            omega
          have henc := nencode_any (lstF k deep) B d wr (HE.out _ HB.out) HNA.out (fun x hx => by
            unfold lstF at hx
            obtain ⟨j, hj, rfl⟩ := List.mem_map.1 hx
            have hj2 := List.mem_range.1 hj
            have hs : (fF k j).at_.size ≤ 1000 := by
              show (atF k j).size ≤ 1000
              unfold atF
              split
              · rw [deepF_len]; omega
              · rw [deepF_len]; omega
            exact ⟨Nat.le_trans hs (by decide), Nat.zero_le _, Nat.zero_le _, (fun c hc => (by cases hc)), (show (-9223372036854775808 : Int) ≤ 0 ∧ (0 : Int) ≤ 9223372036854775807 by decide), (show (-9223372036854775808 : Int) ≤ 0 ∧ (0 : Int) ≤ 9223372036854775807 by decide), (show (-9223372036854775808 : Int) ≤ 0 ∧ (0 : Int) ≤ 9223372036854775807 by decide)⟩) (by omega)
          rw [hlen, HCK.out] at henc
          have HC := Lib.hid henc
          have HZ := Lib.hid (show wantF k deep = 0 → encS (lstF k deep) = bs (encN (lstF k deep)) from fun h => if_pos (HCK.out.trans h))
          clear henc hcv
          generalize encS (lstF k deep) = es at *
          have hcs : (200 < k + i ∧ wantF k deep = 2) ∨ (¬ 200 < k + i ∧ 8 < deep ∧ wantF k deep = 11) ∨ (¬ 200 < k + i ∧ ¬ 8 < deep ∧ wantF k deep = 0) := by
            unfold wantF
            rw [show k + deep - 1 = k + i by omega]
            by_cases h1 : 200 < k + i
            · exact .inl ⟨h1, if_pos h1⟩
            · by_cases h2 : 8 < deep
              · exact .inr (.inl ⟨h1, h2, by rw [if_neg h1, if_pos h2]⟩)
              · exact .inr (.inr ⟨h1, h2, by rw [if_neg h1, if_neg h2]⟩)
          rcases hcs with ⟨h1, h3⟩ | ⟨h1, h2, h3⟩ | ⟨h1, h2, h3⟩
          · as_aux_lemma =>
            have h1z : (200 : Int) < (k : Int) + (i : Int) := by omega
            rw [h3] at HC
            clear h1 h3 HZ
            go_wp2_with fail
            refine HC.out.mono ?_
            rintro e w7 ⟨rfl, hb7⟩
            have HB7 := Lib.hid (HB.out.trans (hb7.mono HB.out.size))
            clear hb7
            go_wp2_with fail
            refine (HAW.out _ (HE.out _ HB7.out)).mono ?_
            rintro e w8 ⟨rfl, hb8⟩
            have HB8 := Lib.hid (HB7.out.trans (hb8.mono HB7.out.size))
            clear hb8
            go_wp2
            go_ret
            exact ⟨rfl, HB8.out⟩
          · as_aux_lemma =>
            have h1z : ¬ (200 : Int) < (k : Int) + (i : Int) := by omega
            have h2z : (8 : Int) < (deep : Int) := by omega
            rw [h3] at HC
            clear h1 h2 h3 HZ
            go_wp2_with fail
            refine HC.out.mono ?_
            rintro e w7 ⟨rfl, hb7⟩
            have HB7 := Lib.hid (HB.out.trans (hb7.mono HB.out.size))
            clear hb7
            go_wp2_with fail
            refine (HAW.out _ (HE.out _ HB7.out)).mono ?_
            rintro e w8 ⟨rfl, hb8⟩
            have HB8 := Lib.hid (HB7.out.trans (hb8.mono HB7.out.size))
            clear hb8
            go_wp2
            go_ret
            exact ⟨rfl, HB8.out⟩
          · as_aux_lemma =>
            have h1z : ¬ (200 : Int) < (k : Int) + (i : Int) := by omega
            have h2z : ¬ (8 : Int) < (deep : Int) := by omega
            have hz := HZ.out h3
            have hsz : (5 : Int) * (k : Int) < (es.size : Int) := by
              have := HEN.out
              rw [hz]
              omega
            rw [h3] at HC
            clear h1 h2 h3 hz HZ HEN
            go_wp2_with fail
            refine HC.out.mono ?_
            rintro e w7 ⟨rfl, hb7⟩
            have HB7 := Lib.hid (HB.out.trans (hb7.mono HB.out.size))
            clear hb7
            go_wp2_with fail
            refine (HAW.out _ (HE.out _ HB7.out)).mono ?_
            rintro e w8 ⟨rfl, hb8⟩
            have HB8 := Lib.hid (HB7.out.trans (hb8.mono HB7.out.size))
            clear hb8
            go_wp2
            go_ret
            exact ⟨rfl, HB8.out⟩
theorem nfull_all (n deep : Int) (w : World) (he : Env w) (hn : -9223372036854775808 ≤ n ∧ n ≤ 9223372036854775807) (hd : -9223372036854775808 ≤ deep ∧ deep ≤ 9223372036854775807) :
    Calls Tryd.prog 5 #[.int .i64 n, .int .i64 deep] w fun e w' => e = .returned (.bool true) ∧ Below w.heap.size w w' := by
  have HAW := Lib.hid fun W (h : Env W) => awake12_any W h
  have HE := Lib.hid he
  clear he
  by_cases hin : 1 ≤ n ∧ n ≤ 260 ∧ 1 ≤ deep ∧ deep ≤ 10
  · obtain ⟨N, rfl⟩ : ∃ N : Nat, n = N := ⟨n.toNat, by omega⟩
    obtain ⟨D, rfl⟩ : ∃ D : Nat, deep = D := ⟨deep.toNat, by omega⟩
    exact nfull_in N D w HE.out (by omega) (by omega) (by omega) (by omega)
  · have hcs : n < 1 ∨ (¬ n < 1 ∧ 260 < n) ∨ ((¬ n < 1 ∧ ¬ 260 < n) ∧ deep < 1) ∨ ((¬ n < 1 ∧ ¬ 260 < n) ∧ ¬ deep < 1 ∧ 10 < deep) := by omega
    clear hin hn hd
    rcases hcs with h | ⟨h1, h2⟩ | ⟨⟨h1, h2⟩, h3⟩ | ⟨⟨h1, h2⟩, h3, h4⟩
    all_goals
      go_enter Tryd.func5, Tryd.ntmps5
      go_wp2_with fail
      refine (HAW.out _ HE.out).mono ?_
      rintro e w1 ⟨rfl, hb1⟩
      go_wp2
      go_ret
      exact ⟨rfl, hb1⟩
end Go.Proofs.YtaoejgnfoecpfaaDoor
namespace Go.Proofs.YtaoejgnfoecpfaaDoor
set_option linter.unusedVariables false
set_option linter.unusedSimpArgs false
set_option linter.unusedSectionVars false
open Go.RowKit

def zzB : ByteArray := ⟨#[122, 122]⟩
def zeroB (n : Nat) : ByteArray := bs (List.replicate n 0)
theorem zeroB_size (n : Nat) : (zeroB n).size = n := by unfold zeroB; rw [bs_size, List.length_replicate]
/-- make([]byte, n), made a string -/
theorem make_zeros (w : World) (n : Nat) (h : n ≤ 1099511627776) :
    ∃ w', (Instr.makeSlice 46 (.int .i64 (n : Int)) (.int .i64 (n : Int))).run Tryd.prog w = .ok (.slice (some ⟨w.heap.size, 0, none⟩) n n) w' ∧ Below w.heap.size w w' ∧
      (convert 46 9 (.slice (some ⟨w.heap.size, 0, none⟩) n n)).run Tryd.prog w' = .ok (.string (zeroB n)) w' := by
  obtain ⟨i0, hi, hz0, hz1, hz2⟩ := info_parts infoU8
  obtain ⟨w', hr, ho, hg⟩ := run_make_full (P := Tryd.prog) w w.heap.size 46 5 i0 (.int .u8 0) 1 Tryd.underlying46 hi hz0 hz1 .i64 .i64 n (by rw [hz2]; omega) (by unfold maxLen; omega) (Nat.le_refl _)
  refine ⟨w', hr, ⟨hg.os, hg.tape, hg.output, hg.size, fun i hi => hg.block i hi (by simp)⟩, ?_⟩
  refine run_convert_own 46 9 5 Tryd.underlying46 Tryd.underlying5 Tryd.underlying9 (base := w.heap.size) (n := n) (l := List.replicate n 0) ?_
  have : bytesV (List.replicate n 0) = (madeCells (Value.int .u8 0).cells (n * 1)).toList := by
    rw [show (Value.int IntKind.u8 0).cells = #[Value.int .u8 0] from rfl, toList_madeCells_one]
    simp [bytesV]
  rw [this]; exact ho
def zzI (size : Nat) : Itm := ⟨zzB, 2, 0, 0, zeroB size⟩
def dirI (j : Nat) : Itm := ⟨deepF j 0, 1, 0, 0, ⟨#[]⟩⟩
def lstW (n size : Nat) : List Itm := zzI size :: (List.range n).map dirI
theorem dirI_fit {j : Nat} (h : j < 260) : fitI (dirI j) = 0 := by
  unfold fitI
  rw [if_neg (by show ¬ ((1 : Int) < 1 ∨ (3 : Int) < 1); decide)]
  have h1 : isPath (dirI j).path = true := by
    show isPath (deepF j 0) = true
    rw [deep_path j h 0 (by decide)]
    rfl
  rw [h1, if_neg (by simp), if_neg ?_, if_neg (by show ¬ 32768 < 0; decide)]
  have : formI (dirI j) = true := rfl
  rw [this]
  simp
theorem zz_path : isPath zzB = true := by decide +kernel
theorem zzI_fit (size : Nat) : fitI (zzI size) = if 32768 < size then 2 else 0 := by
  unfold fitI
  have h1 : isPath (zzI size).path = true := zz_path
  have h2 : formI (zzI size) = true := rfl
  have h3 : (zzI size).data.size = size := zeroB_size size
  rw [if_neg (by show ¬ ((2 : Int) < 1 ∨ (3 : Int) < 2); decide), h1, if_neg (by simp), h2, if_neg (by simp), h3]
theorem deep_inj : ∀ {i j : Nat}, i < 260 → j < 260 → deepF i 0 = deepF j 0 → i = j := by
  intro i j hi hj h
  have e : nmL i ++ sxL 0 = nmL j ++ sxL 0 := by
    have h2 : (deepF i 0).data.toList = (deepF j 0).data.toList := by rw [h]
    simpa [deepF] using h2
  simp only [nmL, sxL, List.append_nil, List.cons.injEq, and_true] at e
  have e1 := congrArg UInt8.toNat e.1
  have e2 := congrArg UInt8.toNat e.2
  rw [UInt8.toNat_ofNat', UInt8.toNat_ofNat'] at e1 e2
  omega
theorem zz_not : ∀ i, i < 260 → deepF i 0 ≠ zzB := by decide +kernel
theorem zz_parent : (parentP zzB).size = 0 := by decide +kernel
theorem tree_full {n size : Nat} (hn : n ≤ 199) (hs : size ≤ 32768) : TreeOk (lstW n size) where
  len := by
    unfold lstW
    rw [List.length_cons, List.length_map, List.length_range]
    omega
  fit := fun x hx => by
    rcases List.mem_cons.1 hx with rfl | hx
    · rw [zzI_fit, if_neg (by omega)]
    · obtain ⟨j, hj, rfl⟩ := List.mem_map.1 hx
      exact dirI_fit (by have := List.mem_range.1 hj; omega)
  apart := by
    refine List.pairwise_cons.2 ⟨fun y hy => ?_, ?_⟩
    · obtain ⟨j, hj, rfl⟩ := List.mem_map.1 hy
      exact fun e => zz_not j (by have := List.mem_range.1 hj; omega) e.symm
    · rw [List.pairwise_map]
      refine List.Pairwise.imp_of_mem ?_ (List.pairwise_lt_range (n := n))
      intro i j hi hj hij e
      have h1 := List.mem_range.1 hi
      have h2 := List.mem_range.1 hj
      have := deep_inj (by omega) (by omega) e
      omega
  there := fun x hx => by
    rcases List.mem_cons.1 hx with rfl | hx
    · exact .inl zz_parent
    · obtain ⟨j, hj, rfl⟩ := List.mem_map.1 hx
      exact .inl (row_par j (by have := List.mem_range.1 hj; omega))
theorem chk_wfull {n size e : Nat} (hn : n ≤ 260) (h : ChkR (lstW n size) e) : e = if 200 < n + 1 ∨ 32768 < size then 2 else 0 := by
  have hl : (lstW n size).length = n + 1 := by
    unfold lstW
    rw [List.length_cons, List.length_map, List.length_range]
  by_cases h1 : 200 < n + 1
  · rw [if_pos (.inl h1)]
    rcases h with ⟨_, h2⟩ | ⟨h2, _⟩ | ⟨h2, _⟩
    · exact h2
    · omega
    · omega
  · by_cases h2 : 32768 < size
    · rw [if_pos (.inr h2)]
      have hf : fitsE (lstW n size) = 2 := by
        have : fitI (zzI size) = 2 := by rw [zzI_fit, if_pos h2]
        unfold lstW fitsE
        rw [this]
        rfl
      rcases h with ⟨h3, _⟩ | ⟨_, _, h3⟩ | ⟨_, h3, _⟩
      · omega
      · rw [h3, hf]
      · rw [hf] at h3; cases h3
    · rw [if_neg (by omega)]
      exact (chk_zero h).2 (tree_full (by omega) (by omega))
theorem lstW_snoc (k size : Nat) : lstW (k + 1) size = lstW k size ++ [dirI k] := by
  unfold lstW
  rw [List.range_succ, List.map_append, List.cons_append]
  rfl
theorem lstW_len (n size : Nat) : (lstW n size).length = n + 1 := by
  unfold lstW
  rw [List.length_cons, List.length_map, List.length_range]
theorem itmsC_app (a b : List Itm) : itmsC (a ++ b) = itmsC a ++ itmsC b := by
  unfold itmsC
  rw [List.map_append, List.flatten_append]
theorem lstW_ib {n size : Nat} (hs : size ≤ 32800) : ∀ x ∈ lstW n size, ItB x := fun x hx => by
  rcases List.mem_cons.1 hx with rfl | hx
  · exact ⟨by show zzB.size ≤ _; decide, by show (zeroB size).size ≤ _; rw [zeroB_size]; omega⟩
  · obtain ⟨j, _, rfl⟩ := List.mem_map.1 hx
    exact ⟨by show (deepF j 0).size ≤ _; rw [deepF_len]; decide, by show (⟨#[]⟩ : ByteArray).size ≤ _; decide⟩
set_option maxRecDepth 100000 in
set_option maxHeartbeats 3200000 in
theorem wfull_in (n size : Nat) (w : World) (he : Env w) (hn : n ≤ 260) (hs : size ≤ 32800) :
    Calls Tryd.prog 10 #[.int .i64 n, .int .i64 size] w fun e w' => e = .returned (.bool true) ∧ Below w.heap.size w w' := by
  have HE := Lib.hid fun W (hb : Below w.heap.size w W) => he.below hb
  have HAW := Lib.hid fun W (h : Env W) => awake13_any W h
  clear he
  have a1 : ¬ (n : Int) < 0 := by omega
  have a2 : ¬ (260 : Int) < n := by omega
  have a3 : ¬ (size : Int) < 0 := by omega
  have a4 : ¬ (32800 : Int) < size := by omega
  obtain ⟨wm, hmk, hbm, hcv⟩ := make_zeros w size (by omega)
  have HB0 := Lib.hid (hbm.alloc hbm.size (.cells #[.string ⟨#[122, 122]⟩, .int .i64 2, .int .i64 0, .int .i64 0, .string (zeroB size)] 59))
  have HO0 := Lib.hid (show (wm.alloc (.cells #[.string ⟨#[122, 122]⟩, .int .i64 2, .int .i64 0, .int .i64 0, .string (zeroB size)] 59)).ownsRow w.heap.size 59 5 (.slice (some ⟨wm.heap.size, 0, none⟩) (0 + 1) 1) (0 + 1) (itmsC (lstW 0 size)) from World.ownsRow_lit (e := 59) (size := 5) (base := w.heap.size) wm #[.string ⟨#[122, 122]⟩, .int .i64 2, .int .i64 0, .int .i64 0, .string (zeroB size)] 1 hbm.size (by decide) rfl)
  clear hbm
  go_enter Tryd.func10, Tryd.ntmps10
  go_wp2
  go_loopw [5, 6] (fun ov iv wr => ∃ (k : Nat) (B : Option Addr) (d : Nat), ov = .slice B (k + 1) d ∧ iv = .int .i64 (k : Nat) ∧ k ≤ n ∧ Hid (wr.ownsRow w.heap.size 59 5 (.slice B (k + 1) d) (k + 1) (itmsC (lstW k size))) ∧ Hid (Below w.heap.size w wr)) (fun _ iv _ => n - (intOf iv).toNat)
  case atStart => exact ⟨0, some ⟨wm.heap.size, 0, none⟩, 1, rfl, rfl, Nat.zero_le _, HO0, HB0⟩
  case round =>
    clear HO0 HB0
    obtain ⟨k, B, d, rfl, rfl, hk, HO, HB⟩ := hrel
    by_cases hkl : k < n
    · have hki : (k : Int) < (n : Int) := by omega
      have hcv2 := conv_name wr k _ _ (by omega) rfl rfl
      have hb1 := (Below.refl wr.heap.size wr).alloc (Nat.le_refl _) (.cells #[.int .u8 (97 + (k : Int) / 26), .int .u8 (97 + (k : Int) % 26)] 5)
      have HO1 := Lib.hid (own_atN HO.out fun i hi => hb1.block i (HO.out.lt i hi).2)
      have HB1 := Lib.hid (HB.out.trans (hb1.mono HB.out.size))
      clear hb1
      go_wp2_with (at_builtin; refine wpList_app1s rfl _ _ 49 rfl w.heap.size 59 Tryd.underlying49 infoItem rfl (by decide) _ _ _ rfl HO1.out _ (by simp) rfl rfl (by simp [Value.oneCell']) (by omega) (by omega) HB1.out.size ?_; intro g5 cap5 w5 ho5 hg5 hb5 hl5
                   have HO5 := Lib.hid (show w5.ownsRow w.heap.size 59 5 (.slice (some ⟨g5, 0, none⟩) (k + 1 + 1) cap5) (k + 1 + 1) (itmsC (lstW (k + 1) size)) by
                     rw [lstW_snoc, itmsC_app]
                     exact ho5)
                   have HB5 := Lib.hid (HB1.out.grown hg5 HB1.out.size fun j hj => (HO1.out.lt j hj).1)
                   clear ho5 hg5 hb5 hl5)
      go_wp2
      go_roundw
      case rel => exact ⟨k + 1, some ⟨g5, 0, none⟩, cap5, rfl, by go_num, by omega, HO5, HB5⟩
      case measure => simp [intOf]; omega
    · obtain rfl : k = n := by omega
      have hki : ¬ (k : Int) < (k : Int) := by omega
      have HC := Lib.hid fun W (hb : Below wr.heap.size wr W) => (by
        have h := wcheck_any B d (lstW k size) W (HE.out W (HB.out.trans (hb.mono HB.out.size))) ((own_itmA HO.out (lstW_len k size).symm).below hb) (lstW_ib hs) (by rw [lstW_len]; omega)
        rw [lstW_len] at h
        exact h : Calls Tryd.prog 53 #[.slice B (k + 1) d] W fun e w' => ∃ n : Nat, e = .returned (.int .i64 n) ∧ ChkR (lstW k size) n ∧ Below W.heap.size W w')
      have HQ := Lib.hid fun e => @chk_wfull k size e hn
      rcases (by omega : (200 < k + 1 ∧ (200 < k + 1 ∨ 32768 < size)) ∨ (¬ 200 < k + 1 ∧ 32768 < size ∧ (200 < k + 1 ∨ 32768 < size)) ∨ (¬ 200 < k + 1 ∧ ¬ 32768 < size ∧ ¬ (200 < k + 1 ∨ 32768 < size))) with ⟨h1, h3⟩ | ⟨h1, h2, h3⟩ | ⟨h1, h2, h3⟩
      · have h1z : (200 : Int) < (k : Int) + 1 := by omega
        have HV := Lib.hid h3
        clear h1 h3
        go_wp2_with fail
        refine (HAW.out _ (HE.out _ HB.out)).mono ?_
        rintro e w7 ⟨rfl, hb7⟩
        have HB7 := Lib.hid hb7
        clear hb7
        go_wp2_with fail
        refine (HC.out _ HB7.out).mono ?_
        rintro e w8 ⟨v, rfl, hv, hb8⟩
        obtain rfl : v = 2 := (HQ.out v hv).trans (if_pos HV.out)
        have HB8 := Lib.hid ((HB.out.trans (HB7.out.mono HB.out.size)).trans (hb8.mono (HB.out.trans (HB7.out.mono HB.out.size)).size))
        clear hb8 hv
        go_wp2
        go_ret
        exact ⟨rfl, HB8.out⟩
      · have h1z : ¬ (200 : Int) < (k : Int) + 1 := by omega
        have h2z : (32768 : Int) < (size : Int) := by omega
        have HV := Lib.hid h3
        clear h1 h2 h3
        go_wp2_with fail
        refine (HAW.out _ (HE.out _ HB.out)).mono ?_
        rintro e w7 ⟨rfl, hb7⟩
        have HB7 := Lib.hid hb7
        clear hb7
        go_wp2_with fail
        refine (HC.out _ HB7.out).mono ?_
        rintro e w8 ⟨v, rfl, hv, hb8⟩
        obtain rfl : v = 2 := (HQ.out v hv).trans (if_pos HV.out)
        have HB8 := Lib.hid ((HB.out.trans (HB7.out.mono HB.out.size)).trans (hb8.mono (HB.out.trans (HB7.out.mono HB.out.size)).size))
        clear hb8 hv
        go_wp2
        go_ret
        exact ⟨rfl, HB8.out⟩
      · have h1z : ¬ (200 : Int) < (k : Int) + 1 := by omega
        have h2z : ¬ (32768 : Int) < (size : Int) := by omega
        have HV := Lib.hid h3
        clear h1 h2 h3
        go_wp2_with fail
        refine (HAW.out _ (HE.out _ HB.out)).mono ?_
        rintro e w7 ⟨rfl, hb7⟩
        have HB7 := Lib.hid hb7
        clear hb7
        go_wp2_with fail
        refine (HC.out _ HB7.out).mono ?_
        rintro e w8 ⟨v, rfl, hv, hb8⟩
        obtain rfl : v = 0 := (HQ.out v hv).trans (if_neg HV.out)
        have HB8 := Lib.hid ((HB.out.trans (HB7.out.mono HB.out.size)).trans (hb8.mono (HB.out.trans (HB7.out.mono HB.out.size)).size))
        clear hb8 hv
        go_wp2
        go_ret
        exact ⟨rfl, HB8.out⟩
theorem wfull_all (n size : Int) (w : World) (he : Env w) (hn : -9223372036854775808 ≤ n ∧ n ≤ 9223372036854775807) (hs : -9223372036854775808 ≤ size ∧ size ≤ 9223372036854775807) :
    Calls Tryd.prog 10 #[.int .i64 n, .int .i64 size] w fun e w' => e = .returned (.bool true) ∧ Below w.heap.size w w' := by
  have HAW := Lib.hid fun W (h : Env W) => awake13_any W h
  have HE := Lib.hid he
  clear he
  by_cases hin : 0 ≤ n ∧ n ≤ 260 ∧ 0 ≤ size ∧ size ≤ 32800
  · obtain ⟨N, rfl⟩ : ∃ N : Nat, n = N := ⟨n.toNat, by omega⟩
    obtain ⟨D, rfl⟩ : ∃ D : Nat, size = D := ⟨size.toNat, by omega⟩
    exact wfull_in N D w HE.out (by omega) (by omega)
  · have hcs : n < 0 ∨ (¬ n < 0 ∧ 260 < n) ∨ ((¬ n < 0 ∧ ¬ 260 < n) ∧ size < 0) ∨ ((¬ n < 0 ∧ ¬ 260 < n) ∧ ¬ size < 0 ∧ 32800 < size) := by omega
    clear hin hn hs
    rcases hcs with h | ⟨h1, h2⟩ | ⟨⟨h1, h2⟩, h3⟩ | ⟨⟨h1, h2⟩, h3, h4⟩
    all_goals
      go_enter Tryd.func10, Tryd.ntmps10
      go_wp2_with fail
      refine (HAW.out _ HE.out).mono ?_
      rintro e w1 ⟨rfl, hb1⟩
      go_wp2
      go_ret
      exact ⟨rfl, hb1⟩
end Go.Proofs.YtaoejgnfoecpfaaDoor
