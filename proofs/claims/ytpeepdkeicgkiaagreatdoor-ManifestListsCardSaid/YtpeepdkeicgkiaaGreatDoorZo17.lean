/- SHA-256: Write. SHA-256: the sum of what was written. SHA-256 of a text, its digits, its name. Digits of bytes; the name of a text. The document's digits of a text. The document's name of a text is the program's. -/
import Derived.Test.YtpeepdkeicgkiaaGreatDoorZo6
import Derived.Deep.DeepCutAuto
import Derived.Laws.Tables
import Derived.OwnWalk
import Derived.Laws.OwnMore
import Derived.Laws.MakeOwn
import Derived.Deep.AppendLies
import Derived.Deep.RegionLaw
import Derived.Test.YtpeepdkeicgkiaaGreatDoorZo4
import Derived.Test.YtpeepdkeicgkiaaGreatDoorZo16
namespace Go.Proofs.YtpeepdkeicgkiaaGreatDoor
set_option linter.unusedVariables false
set_option linter.unusedSimpArgs false
set_option linter.unusedSectionVars false
open Go.RowKit

theorem txt_dropE (S : ByteArray) (n : Nat) : (S.extract n S.size).data.toList = S.data.toList.drop n := Lib.extract_to_end S n
def szS (v : Value) : Nat := match v with
  | .string b => b.size
  | _ => 0
theorem drop_drop64 (l : List UInt8) (k : Nat) : (l.drop (64 * k)).drop 64 = l.drop (64 * (k + 1)) := by rw [List.drop_drop, Nat.mul_succ]
def WrP (g : Nat) (v : V8) (rest s : ByteArray) (n : Nat) (w w' : World) : Prop := Blk w' g 152 (hCells (blocksF v (rest ++ s).data.toList) ktab (bs (restB (rest ++ s).data.toList)) ((n + s.size : Nat) : Int) true) ∧ w.grownBy w' (some g)
set_option maxRecDepth 100000 in
set_option maxHeartbeats 3200000 in
theorem write_any (g : Nat) (beg : Bool) (v : V8) (rest s : ByteArray) (n : Nat) (w : World) (hs : s.size ≤ 140737488355328) (hr : rest.size ≤ 64) (hn : n + s.size ≤ 9223372036854775807)
    (hpre : beg = true ∧ Blk w g 152 (hCells v ktab rest n true) ∨ beg = false ∧ v = htab ∧ rest = ByteArray.empty ∧ n = 0 ∧ Blk w g 152 freshC) :
    Calls Tryz.prog 97 #[.pointer (some ⟨g, 0, none⟩), .string s] w fun e w' => e = .returned (.tuple #[]) ∧ WrP g v rest s n w w' := by
  have HPR := Lib.hid hpre
  have HLT := Lib.hid (show g < w.heap.size from by rcases hpre with h | h; exact h.2.lt; exact h.2.2.2.2.lt)
  clear hpre
  go_enter Tryz.func97, Tryz.ntmps97
  have c74 : w.cell? ⟨g, 74, none⟩ = some (.bool beg) := by
    rcases HPR.out with ⟨rfl, h⟩ | ⟨rfl, _, _, _, h⟩
    · exact (h.cell 74).trans (hTail (ws := v.toL) rfl rfl).2.2
    · exact (h.cell 74).trans (hTail (by rfl) (by rfl)).2.2
  go_upto_if 10 with fail
  go_cut [] (fun wc => Hid (Blk wc g 152 (hCells v ktab rest n true)) ∧ Hid (w.grownBy wc (some g)))
  case first =>
    cases beg with
    | true =>
      have HB := Lib.hid (show Blk w g 152 (hCells v ktab rest n true) from by
        rcases HPR.out with ⟨_, h⟩ | ⟨h, _⟩
        · exact h
        · cases h)
      clear HPR
      go_wp2
      go_meet
      exact ⟨HB, Lib.hid (World.grownBy.refl w _)⟩
    | false =>
      have HB := Lib.hid (show v = htab ∧ rest = ByteArray.empty ∧ n = 0 ∧ Blk w g 152 freshC from by
        rcases HPR.out with ⟨h, _⟩ | ⟨_, h⟩
        · cases h
        · exact h)
      clear HPR
      have HP := Lib.hid (primes_any w)
      go_wp2_with fail
      refine HP.out.mono ?_
      rintro e w1 ⟨A, c, rfl, hown, hb1⟩
      obtain ⟨gp, rfl, hgp1, hgp2, hcc⟩ := own_at hown (by decide)
      have HCC := Lib.hid hcc
      have HF := Lib.hid (show Blk w1 g 152 (hCellsL (wordK (min 0 8)) (stepK 0) ByteArray.empty 0 false) from HB.out.2.2.2.below hb1 HLT.out)
      have HG1 := Lib.hid (show w.grownBy w1 (some g) from ⟨hb1.os, hb1.tape, hb1.output, hb1.size, fun k hk _ => hb1.block k hk⟩)
      have HGP := Lib.hid (show gp ≠ g from fun e => by have := HLT.out; omega)
      clear hown hb1 hcc hgp1 hgp2 HP c74
      go_wp2
      go_loopw [13] (fun i wr => ∃ k : Nat, i = .int .i64 (k : Nat) ∧ k ≤ 64 ∧ Hid (Blk wr g 152 (hCellsL (wordK (min k 8)) (stepK k) ByteArray.empty 0 false)) ∧ Hid (w.grownBy wr (some g)) ∧ Hid (∀ j u, (u64V primes64)[j]? = some u → wr.cell? ⟨gp, j, none⟩ = some u)) (fun i _ => 64 - (intOf i).toNat)
      case atStart => exact ⟨0, rfl, by omega, HF, HG1, HCC⟩
      case round =>
        clear HF HG1 HCC
        obtain ⟨k, rfl, hk, HF, HG1, HCC⟩ := hrel
        by_cases hlt : k < 64
        · have cp := HCC.out k _ (u64V_get (l := primes64) (k := k) hlt)
          have e0 : primes64[k] = primes64.getD k 0 := by rw [List.getD_eq_getElem?_getD, List.getElem?_eq_getElem hlt]; rfl
          rw [e0] at cp
          have HRS := Lib.hid (root_step ⟨k, hlt⟩)
          have hp6 : primes64.getD k 0 < 65536 := by
            rw [← e0]
            exact (show ∀ x ∈ primes64, x < 65536 by decide) _ (List.getElem_mem hlt)
          clear e0
          have HRT := Lib.hid fun W => (root_true (primes64.getD k 0) W hp6).mono fun _ _ h => (show _ ∧ _ = W from ⟨h.1, h.2.symm⟩)
          have HRF := Lib.hid fun W => (root_false (primes64.getD k 0) W hp6).mono fun _ _ h => (show _ ∧ _ = W from ⟨h.1, h.2.symm⟩)
          have HSK := Lib.hid (stepK_set ⟨k, hlt⟩)
          rw [show rootF (primes64.getD k 0) true = ktab.getD k 0 from root_step ⟨k, hlt⟩] at HRT
          simp only at HSK
          clear hp6 HRS
          have cs := (HF.out.cell (8 + k)).trans (hCellsL_st (wordK_len (by omega)) (by rw [stepK_len (by omega)]; exact hlt))
          have fs := HF.out.frozen (8 + k)
          have HF2 := Lib.hid (show Blk ((wr.setCell ⟨g, 8 + k, none⟩ (.int .u32 (iW (ktab.getD k 0)))).drew) g 152 (hCellsL (wordK (min k 8)) (stepK (k + 1)) ByteArray.empty 0 false) from by
            have h := HF.out.set_ (8 + k) (.int .u32 (iW (ktab.getD k 0)))
            rw [hCellsL_setst (wordK_len (by omega)) (by rw [stepK_len (by omega)]; exact hlt), HSK.out] at h
            exact h.drew)
          have HG2 := Lib.hid (HG1.out.trans (grown_drew (Only.set g (8 + k) wr (.int .u32 (iW (ktab.getD k 0)))).grown))
          have HCC2 := Lib.hid (show ∀ j u, (u64V primes64)[j]? = some u → ((wr.setCell ⟨g, 8 + k, none⟩ (.int .u32 (iW (ktab.getD k 0)))).drew).cell? ⟨gp, j, none⟩ = some u from fun j u hj => ((grown_drew (Only.set g (8 + k) wr (.int .u32 (iW (ktab.getD k 0)))).grown).cell (HCC.out j u hj) (by simpa using HGP.out)))
          have g7 : (k : Int) < 64 := by omega
          have HRW := Lib.hid (show ∀ h : k < 8, rootF (primes64.getD k 0) false = htab.toL.getD k 0 from fun h => root_word ⟨k, h⟩)
          generalize primes64.getD k 0 = pk at *
          generalize ktab.getD k 0 = kk at *
          clear HSK
          obtain ⟨wn, rfl⟩ : ∃ wn : World, wn = wr := ⟨_, rfl⟩
          go_wp2
          refine quiet_tail 7 (by kernel_rfl) (by kernel_rfl) ?_
          simp only [List.take_succ_cons, List.take_zero, List.drop_succ_cons, List.drop_zero]
          repeat
            first
              | go_big_quiet_skip
              | (go_big_quiet_want
                 go_big_quiet_op
                 first
                   | go_big_quiet_on
                   | (refine ⟨_, HRT.out _, ?_⟩; go_big_quiet_on))
          refine wpQuiet_nil ?_
          rcases (by omega : k < 8 ∨ 8 ≤ k) with h8 | h8
          · have h8i : (k : Int) < 8 := by omega
            have hrw := HRW.out h8
            rw [hrw] at HRF
            have HSW := Lib.hid (wordK_set ⟨k, h8⟩)
            simp only at HSW
            have hm1 : min k 8 = k := by omega
            rw [hm1] at HF2
            clear hrw hm1 HRW
            go_upto_region 6 with fail
            generalize (wn.setCell ⟨g, 8 + k, none⟩ (.int .u32 (iW kk))).drew = w2 at *
            clear cs fs
            have cs := (HF2.out.cell k).trans (hCellsL_get (by rw [wordK_len (by omega)]; exact h8))
            have fs := HF2.out.frozen k
            have HF3 := Lib.hid (show Blk ((w2.setCell ⟨g, k, none⟩ (.int .u32 (iW (htab.toL.getD k 0)))).drew) g 152 (hCellsL (wordK (min (k + 1) 8)) (stepK (k + 1)) ByteArray.empty 0 false) from by
              have h := HF2.out.set_ k (.int .u32 (iW (htab.toL.getD k 0)))
              rw [hCellsL_set (by rw [wordK_len (by omega)]; exact h8), HSW.out] at h
              rw [show min (k + 1) 8 = k + 1 by omega]
              exact h.drew)
            have HG3 := Lib.hid (HG2.out.trans (grown_drew (Only.set g k w2 (.int .u32 (iW (htab.toL.getD k 0)))).grown))
            have HCC3 := Lib.hid (show ∀ j u, (u64V primes64)[j]? = some u → ((w2.setCell ⟨g, k, none⟩ (.int .u32 (iW (htab.toL.getD k 0)))).drew).cell? ⟨gp, j, none⟩ = some u from fun j u hj => ((grown_drew (Only.set g k w2 (.int .u32 (iW (htab.toL.getD k 0)))).grown).cell (HCC2.out j u hj) (by simpa using HGP.out)))
            generalize htab.toL.getD k 0 = hh at *
            clear HSW HF2 HG2 HCC2
            refine quiet_tail 7 (by kernel_rfl) (by kernel_rfl) ?_
            simp only [List.take_succ_cons, List.take_zero, List.drop_succ_cons, List.drop_zero]
            repeat
              first
                | go_big_quiet_skip
                | (go_big_quiet_want
                   go_big_quiet_op
                   first
                     | go_big_quiet_on
                     | (refine ⟨_, HRF.out _, ?_⟩; go_big_quiet_on))
            refine wpQuiet_nil ?_
            go_wp2
            go_roundw
            case rel => exact ⟨k + 1, by go_num, by omega, HF3, HG3, HCC3⟩
            case measure => simp [intOf]; omega
          · have h8i : ¬ (k : Int) < 8 := by omega
            have hm1 : min k 8 = min (k + 1) 8 := by omega
            rw [hm1] at HF2
            clear hm1 HRW
            go_wp2
            go_roundw
            case rel => exact ⟨k + 1, by go_num, by omega, HF2, HG2, HCC2⟩
            case measure => simp [intOf]; omega
        · obtain rfl : k = 64 := by omega
          obtain ⟨e1, e2, e3, _⟩ := HB.out
          subst e1 e2 e3
          have cs := (HF.out.cell 74).trans (hTail (by rfl) (by rfl)).2.2
          have fs := HF.out.frozen 74
          have HF2 := Lib.hid (show Blk (wr.setCell ⟨g, 74, none⟩ (.bool true)) g 152 (hCells htab ktab ByteArray.empty 0 true) from by
            have h := HF.out.set_ 74 (.bool true)
            rw [hSet74 (by rfl) (by rfl)] at h
            exact h)
          have HG2 := Lib.hid (HG1.out.trans (Only.set g 74 wr (.bool true)).grown)
          go_wp2
          go_meet
          exact ⟨HF2, HG2⟩
  case rest =>
    obtain ⟨HB, HGR⟩ := hcut
    clear HPR c74
    have c73 : wc.cell? ⟨g, 73, none⟩ = some (.int .u64 (n : Nat)) := (HB.out.cell 73).trans (hTail (ws := v.toL) rfl rfl).2.1
    have f73 := HB.out.frozen 73
    have c72 : wc.cell? ⟨g, 72, none⟩ = some (.string rest) := (HB.out.cell 72).trans (hTail (ws := v.toL) rfl rfl).1
    have HB2 := Lib.hid (show Blk (wc.setCell ⟨g, 73, none⟩ (.int .u64 ((n : Int) + (s.size : Int)))) g 152 (hCells v ktab rest ((n + s.size : Nat) : Int) true) from by
      have h := HB.out.set_ 73 (.int .u64 ((n : Int) + (s.size : Int)))
      rw [show hCells v ktab rest (n : Int) true = hCellsL v.toL ktab rest (n : Int) true from rfl, hSet73 rfl rfl] at h
      exact h)
    have HG2 := Lib.hid (HGR.out.trans (Only.set g 73 wc (.int .u64 ((n : Int) + (s.size : Int)))).grown)
    have hcs : (rest ++ s).size = rest.size + s.size := ByteArray.size_append
    have hT : (rest ++ s).size ≤ 140737488355392 := by omega
    have HTL := Lib.hid (show (rest ++ s).data.toList.length = (rest ++ s).size by simp)
    have HT0 := Lib.hid (show (rest ++ s).data.toList = (rest ++ s).data.toList.drop (64 * 0) by rw [Nat.mul_zero, List.drop_zero])
    have HBS := Lib.hid (show bs (rest ++ s).data.toList = rest ++ s from bs_self _)
    clear HB HGR hcs
    go_upto_region 11 with fail
    generalize wc.setCell ⟨g, 73, none⟩ (.int .u64 ((n : Int) + (s.size : Int))) = w2 at *
    clear c73 f73 c72
    generalize hTB : rest ++ s = TB at *
    have HTB := Lib.hid hTB
    clear hTB
    go_loopw [1] (fun sv wr => ∃ (k : Nat) (S : ByteArray), sv = .string S ∧ Hid (S.data.toList = TB.data.toList.drop (64 * k)) ∧ 64 * k + S.size = TB.size ∧ Hid (Blk wr g 152 (hCells (blocksN v TB.data.toList k) ktab rest ((n + s.size : Nat) : Int) true)) ∧ Hid (w.grownBy wr (some g))) (fun sv _ => szS sv)
    case atStart => exact ⟨0, TB, rfl, HT0, by omega, HB2, HG2⟩
    case round =>
      clear HB2 HG2 HT0
      obtain ⟨k, S, rfl, HS, hsz, HB, HG⟩ := hrel
      by_cases h64 : 64 ≤ S.size
      · have hi : (64 : Int) ≤ (S.size : Int) := by omega
        have hx : (S.extract 0 64).size = 64 := by rw [ByteArray.size_extract]; omega
        have hy : (S.extract 64 S.size).size = S.size - 64 := by rw [ByteArray.size_extract]; omega
        have HX := Lib.hid (show (S.extract 0 64).data.toList = (TB.data.toList.drop (64 * k)).take 64 by rw [ba_take64, HS.out])
        have HY := Lib.hid (show (S.extract 64 S.size).data.toList = TB.data.toList.drop (64 * (k + 1)) by rw [txt_dropE, HS.out, drop_drop64])
        have HC := Lib.hid fun W (h : Blk W g 152 (hCells (blocksN v TB.data.toList k) ktab rest ((n + s.size : Nat) : Int) true)) => block_any g (blocksN v TB.data.toList k) rest _ true (S.extract 0 64) W hx h
        have HYZ := Lib.hid hy
        clear hx hy
        obtain ⟨wn, rfl⟩ : ∃ wn : World, wn = wr := ⟨_, rfl⟩
        go_wp2_with fail
        (with_reducible refine (HC.out _ HB.out).mono ?_)
        rintro e w3 ⟨rfl, hb3, hg3⟩
        have HB3 := Lib.hid hb3
        have HG3 := Lib.hid (HG.out.trans (World.grownBy.trans (World.grownBy.refl _ _) hg3))
        clear hb3 hg3 HC
        go_wp2
        go_roundw
        case rel => exact ⟨k + 1, _, rfl, HY, by have := HYZ.out; omega, by rw [blocksN_snoc, ← HX.out]; exact HB3, HG3⟩
        case measure =>
          have := HYZ.out
          simp only [szS]; omega
      · have hi : ¬ (64 : Int) ≤ (S.size : Int) := by omega
        have c72 : wr.cell? ⟨g, 72, none⟩ = some (.string rest) := (HB.out.cell 72).trans (hTail (ws := (blocksN v TB.data.toList k).toL) rfl rfl).1
        have f72 := HB.out.frozen 72
        have HF := Lib.hid (show Blk (wr.setCell ⟨g, 72, none⟩ (.string S)) g 152 (hCells (blocksF v TB.data.toList) ktab (bs (restB TB.data.toList)) ((n + s.size : Nat) : Int) true) from by
          have hl := HTL.out
          have hk : TB.data.toList.length / 64 = k := by omega
          have e1 : bs (restB TB.data.toList) = S := by
            unfold restB
            rw [hk, ← HS.out, bs_self]
          have e2 : blocksF v TB.data.toList = blocksN v TB.data.toList k := by unfold blocksF; rw [hk]
          rw [e1, e2]
          have h := HB.out.set_ 72 (.string S)
          rw [show hCells (blocksN v TB.data.toList k) ktab rest ((n + s.size : Nat) : Int) true = hCellsL (blocksN v TB.data.toList k).toL ktab rest ((n + s.size : Nat) : Int) true from rfl, hSet72 rfl rfl] at h
          exact h)
        have HG3 := Lib.hid (HG.out.trans (Only.set g 72 wr (.string S)).grown)
        go_wp2
        go_end0
        have h := HF.out
        rw [← HTB.out] at h
        exact ⟨rfl, h, HG3.out⟩
end Go.Proofs.YtpeepdkeicgkiaaGreatDoor
namespace Go.Proofs.YtpeepdkeicgkiaaGreatDoor
set_option linter.unusedVariables false
set_option linter.unusedSimpArgs false
set_option linter.unusedSectionVars false
open Go.RowKit

theorem infoHash : (Tryz.prog.info? 152).map (·.size) = some 75 := by kernel_rfl
theorem infoByteE : (Tryz.prog.info? 5).map (fun i => (i.zero, i.size, i.bytes)) = some (some (.int .u8 0), 1, 1) := by kernel_rfl
theorem hc_size (v : V8) (rest : ByteArray) (n : Int) (b : Bool) : (hCells v ktab rest n b).size = 75 := by
  unfold hCells wCells
  simp only [Array.size_append, List.size_toArray, List.length_map, List.length_append]
  rfl
theorem hc_one (v : V8) (rest : ByteArray) (n : Int) (b : Bool) : (hCells v ktab rest n b).all (·.oneCell') = true := by
  unfold hCells wCells
  simp [Value.oneCell']
/-- a whole row is stored: the world behind it, by what it holds -/
theorem wpList_store_rowA {P : Program} {ops : Array Oper} {rest : List Oper} {o : Oper} {a : Act} {w : World} {Q : Exit → Act → World → Prop} (hgd : o.guard = none) (ty : TypeId) (x y : Operand) (ho : o.op = .store ty x y)
    (g : Nat) (cells : Array Value) (hx : a.eval x = .pointer (some ⟨g, 0, none⟩)) (hy : a.eval y = .agg cells)
    (t : TypeId) (old : Array Value) (hg : Blk w g t old) (hi : (P.info? ty).map (·.size) = some cells.size)
    (hold : old.size = cells.size) (h1 : cells.all (·.oneCell') = true)
    (h : ∀ w', Blk w' g t cells → w.grownBy w' (some g) → w'.heap.size = w.heap.size → wpList P ops Q rest (a.put o.dst undef) w') : wpList P ops Q (o :: rest) a w :=
  wpList_store_row hgd ty x y ho g cells hx hy t old hg hi hold h1 (h _ (setRow_heap w g old cells t (0, 0) hg) ⟨rfl, rfl, rfl, by simp, fun k _ hn => setRow_other w g k _ (fun e => hn (by rw [e]))⟩ (by simp))
/-- what Sum writes behind all -/
def padP (n r : Nat) : List UInt8 := 128 :: List.replicate ((119 - r) % 64) 0 ++ (List.range 8).map fun i => UInt8.ofNat (n * 8 / 2 ^ (56 - 8 * i))
theorem padP_is {n r : Nat} (h : n % 64 = r) : padP n r = padB n := by
  unfold padP padB
  rw [h]
/-- behind k of the eight bytes -/
def padK (n r k : Nat) : List UInt8 := 128 :: List.replicate ((119 - r) % 64) 0 ++ (List.range k).map fun i => UInt8.ofNat (n * 8 / 2 ^ (56 - 8 * i))
theorem padK_succ (n r k : Nat) : padK n r (k + 1) = padK n r k ++ [UInt8.ofNat (n * 8 / 2 ^ (56 - 8 * k))] := by
  unfold padK
  rw [List.range_succ, List.map_append, ← List.append_assoc]
  rfl
theorem padK_len (n r k : Nat) : (padK n r k).length = 1 + (119 - r) % 64 + k := by
  unfold padK
  simp only [List.length_append, List.length_cons, List.length_replicate, List.length_map, List.length_range]
  omega
theorem byte_shr (x d : Nat) : ((x : Int) / (d : Int)) % 256 = ((UInt8.ofNat (x / d)).toNat : Int) := by
  rw [UInt8.toNat_ofNat']
  omega
theorem own_first {w : World} {B g m : Nat} {cap : Nat} (h : w.ownsRow B 5 1 (.slice (some ⟨g, 0, none⟩) m cap) m (madeCells (Value.int .u8 0).cells (m * 1)).toList) (n r : Nat) (hm : m = 1 + (119 - r) % 64) :
    (w.setCell ⟨g, 0, none⟩ (.int .u8 128)).ownsRow B 5 1 (.slice (some ⟨g, 0, none⟩) m cap) m (bytesV (padK n r 0)) := by
  have h2 := (h.stored 0 (.int .u8 128)).1
  rw [show (Value.int IntKind.u8 0).cells = #[.int .u8 0] from rfl, toList_madeCells_one, hm, Nat.mul_one, Nat.add_comm 1, List.replicate_succ, List.set_cons_zero] at h2
  rw [hm]
  have e : bytesV (padK n r 0) = Value.int .u8 128 :: List.replicate ((119 - r) % 64) (.int .u8 0) := by
    unfold padK bytesV
    simp
  rw [e, Nat.add_comm 1]
  exact h2
theorem bytesW_v (x : W32) : [Value.int .u8 (iW x / 16777216 % 256), Value.int .u8 (iW x / 65536 % 256), Value.int .u8 (iW x / 256 % 256), Value.int .u8 (((x.toNat : Nat) : Int) % 256)] = bytesV (bytesW x) := by
  unfold bytesV bytesW
  simp only [List.map_cons, List.map_nil, UInt8.toNat_ofNat', iW]
  rfl
theorem flat_succ (l : List W32) {k : Nat} (h : k < l.length) : (l.take (k + 1)).flatMap bytesW = (l.take k).flatMap bytesW ++ bytesW (l.getD k 0) := by
  rw [List.take_succ_eq_append_getElem h, List.flatMap_append, getD_get h]
  simp
set_option maxRecDepth 100000 in
set_option maxHeartbeats 6400000 in
theorem hsum_any (g : Nat) (v : V8) (rest : ByteArray) (n : Nat) (w : World) (hg : Blk w g 152 (hCells v ktab rest (n : Nat) true)) (hr : rest.size < 64) (hn : n ≤ 140737488355328) :
    Calls Tryz.prog 98 #[.pointer (some ⟨g, 0, none⟩)] w fun e w' => e = .returned (.string (bs ((blocksF v (rest.data.toList ++ padP n rest.size)).toL.flatMap bytesW))) ∧ Below w.heap.size w w' := by
  have HG := Lib.hid hg
  clear hg
  obtain ⟨i0, hi0, hz0, hz1, hz2⟩ := info_parts infoByteE
  go_enter Tryz.func98, Tryz.ntmps98
  have HZ := Lib.hid (And.intro hi0 (And.intro hz0 (And.intro hz1 hz2)))
  clear hi0 hz0 hz1 hz2
  go_upto_region 2 with (first
    | (refine wpList_load_row rfl 152 _ rfl g rfl 152 _ _ _ HG.out Tryz.underlying152 rfl (by rw [hc_size]; exact infoHash) ?_)
    | (refine wpList_store_rowA rfl 152 _ _ rfl w.heap.size _ rfl rfl 152 _ (Blk.new w _ _) (by rw [hc_size]; exact infoHash) (by rw [hc_size]; rfl) (hc_one _ _ _ _) ?_; intro w2 hB2 hG2 hsz2))
  have HB2 := Lib.hid (show Below w.heap.size w w2 from ((Below.refl w.heap.size w).alloc (Nat.le_refl _) _).grown hG2 (by simp) (fun k hk => by cases hk; exact Nat.le_refl _))
  have HE2 := Lib.hid hB2
  have HS2 := Lib.hid (show w.heap.size < w2.heap.size from hB2.lt)
  have HG2 := Lib.hid (HG.out.below HB2.out HG.out.lt)
  clear hB2 hG2 hsz2
  have c72 : w2.cell? ⟨g, 72, none⟩ = some (.string rest) := (HG2.out.cell 72).trans (hTail (ws := v.toL) rfl rfl).1
  have c73 : w2.cell? ⟨g, 73, none⟩ = some (.int .u64 (n : Nat)) := (HG2.out.cell 73).trans (hTail (ws := v.toL) rfl rfl).2.1
  obtain ⟨m, hm⟩ : ∃ m : Nat, m = 1 + (119 - rest.size) % 64 := ⟨_, rfl⟩
  have HM := Lib.hid hm
  have hmi : 1 + (119 - (rest.size : Int) % 64) % 64 = (m : Int) := by omega
  have hm64 : 1 ≤ m ∧ m ≤ 64 := by omega
  clear hm
  obtain ⟨hm1, hm2⟩ := hm64
  go_upto_region 3 with (first
    | (have z := HZ.out; refine wpList_make_full w2 rfl _ _ 76 rfl w2.heap.size 5 i0 (.int .u8 0) 1 Tryz.underlying76 z.1 z.2.1 z.2.2.1 .i64 .i64 _ _ m rfl rfl (by omega) (by omega) (by rw [z.2.2.2]; omega) (by unfold maxLen; omega) (Nat.le_refl _) ?_; intro w3 hO3 hG3; clear z))
  have HO4 := Lib.hid (own_first hO3 n rest.size HM.out)
  have cz : w3.cell? ⟨w2.heap.size, 0, none⟩ = some (.int .u8 0) := by
    have := hO3.cellAt 0 (by omega)
    rw [this, show (Value.int IntKind.u8 0).cells = #[.int .u8 0] from rfl, toList_madeCells_one, List.getElem?_replicate]
    rw [if_pos (by omega)]
  have fz := hO3.frozenAt 0
  have HE4 := Lib.hid ((HE2.out.grown hG3 (by simp)).far (p := ⟨w2.heap.size, 0, none⟩) (by have := HS2.out; simp only; omega) (.int .u8 128))
  have HB4 := Lib.hid ((HB2.out.grown hG3 HB2.out.size (fun k hk => by cases hk)).setCell (p := ⟨w2.heap.size, 0, none⟩) HB2.out.size (.int .u8 128))
  have HZ4 := Lib.hid (show w2.heap.size ≤ (w3.setCell ⟨w2.heap.size, 0, none⟩ (.int .u8 128)).heap.size by have := hG3.size; simpa using this)
  have c73' : (w3.setCell ⟨w2.heap.size, 0, none⟩ (.int .u8 128)).cell? ⟨g, 73, none⟩ = some (.int .u64 (n : Nat)) := by
    have hlt := HG2.out.lt
    exact (((HG2.out.grown hG3 (by simp)).far (p := ⟨w2.heap.size, 0, none⟩) (by simp only; omega) (.int .u8 128)).cell 73).trans (hTail (ws := v.toL) rfl rfl).2.1
  clear HE2 HB2 hG3 hO3 c72 c73 HG2
  go_upto_region 4 with fail
  generalize w3.setCell ⟨w2.heap.size, 0, none⟩ (.int .u8 128) = w4 at *
  clear cz fz
  go_wp2
  go_loopw [4, 6] (fun pv iv wr => ∃ k : Nat, iv = .int .i64 (56 - 8 * (k : Int)) ∧ k ≤ 8 ∧ Hid (wr.ownsRow w2.heap.size 5 1 pv (m + k) (bytesV (padK n rest.size k))) ∧ Hid (Blk wr w.heap.size 152 (hCells v ktab rest (n : Nat) true)) ∧ Hid (Below w.heap.size w wr) ∧ w2.heap.size ≤ wr.heap.size) (fun _ iv _ => (intOf iv + 8).toNat)
  case atStart => exact ⟨0, rfl, by omega, HO4, HE4, HB4, HZ4.out⟩
  case round =>
    clear HO4 HE4 HB4 HZ4 c73'
    obtain ⟨k, rfl, hk, HO, HE, HB, hz⟩ := hrel
    by_cases hlt : k < 8
    · have hi : (0 : Int) ≤ 56 - 8 * (k : Int) := by omega
      have ht : (56 - 8 * (k : Int)).toNat = 56 - 8 * k := by omega
      have HV := Lib.hid (byte_shr (n * 8) (2 ^ (56 - 8 * k)))
      have hown := HO.out
      have hs2 := HS2.out
      go_wp2_with (at_builtin; refine wpList_app1 rfl _ _ 76 rfl w2.heap.size 5 Tryz.underlying76 infoByteE rfl (by decide) _ _ _ rfl hown _ rfl rfl (oneCell_int _ _) ?_ ?_ ?_ ?_; omega; omega; omega; intro g1 cap1 w1 hown' hgr hbw _)
      have HO1 := Lib.hid (show w1.ownsRow w2.heap.size 5 1 (.slice (some ⟨g1, 0, none⟩) (m + (k + 1)) cap1) (m + (k + 1)) (bytesV (padK n rest.size (k + 1))) from by
        have e : ((n : Int) * 8 / 2 ^ (56 - 8 * k) % 256) = ((UInt8.ofNat (n * 8 / 2 ^ (56 - 8 * k))).toNat : Int) := by
          rw [← HV.out]
          congr 2
        rw [e] at hown'
        rw [padK_succ, bytesV_app]
        exact hown')
      have HE1 := Lib.hid (HE.out.below hbw hs2)
      have HB1 := Lib.hid (HB.out.trans (hbw.mono (Nat.le_of_lt hs2)))
      have hz1 : w2.heap.size ≤ w1.heap.size := Nat.le_trans hz hbw.size
      clear hown hown' hgr hbw
      go_roundw
      case rel => exact ⟨k + 1, by congr 1; omega, by omega, HO1, HE1, HB1, hz1⟩
      case measure => simp [intOf]; omega
    · obtain rfl : k = 8 := by omega
      have hlen := padK_len n rest.size 8
      have HPK := Lib.hid (show padK n rest.size 8 = padP n rest.size from rfl)
      have hown := HO.out
      have hm0 := HM.out
      have hsz : (bs (padK n rest.size 8)).size = (padK n rest.size 8).length := bs_size _
      have HC := Lib.hid fun W (h : Blk W w.heap.size 152 (hCells v ktab rest (n : Nat) true)) => write_any w.heap.size true v rest (bs (padK n rest.size 8)) n W (by omega) (by omega) (by omega) (Or.inl ⟨rfl, h⟩)
      have hcv := run_convert_own 76 9 5 Tryz.underlying76 Tryz.underlying5 Tryz.underlying9 hown
      rw [show (⟨(padK n rest.size 8).toArray⟩ : ByteArray) = bs (padK n rest.size 8) from rfl] at hcv
      clear hown hlen hm0 hsz
      generalize padK n rest.size 8 = pd at *
      go_wp2_with fail
      refine (HC.out _ HE.out).mono ?_
      rintro e w5 ⟨rfl, hwr⟩
      obtain ⟨hw5, hg5⟩ := hwr
      have HE5 := Lib.hid (show Blk w5 w.heap.size 152 (hCells (blocksF v (rest.data.toList ++ pd)) ktab _ _ true) from by
        have e : (rest ++ bs pd).data.toList = rest.data.toList ++ pd := by simp [bs]
        rw [e] at hw5
        exact hw5)
      have HB5 := Lib.hid (HB.out.grown hg5 HB.out.size (fun k hk => by cases hk; exact Nat.le_refl _))
      clear hw5 hg5 HC HE HB hcv
      generalize hVV : blocksF v (rest.data.toList ++ pd) = V at *
      have HVV := Lib.hid hVV
      clear hVV
      obtain ⟨h0, h1, h2, h3, h4, h5, h6, h7⟩ := hCells_w HE5.out
      go_upto_region 11 with (first
        | (have z := HZ.out; refine wpList_make_own w5 rfl _ _ 76 rfl w5.heap.size 5 i0 (.int .u8 0) 1 Tryz.underlying76 z.1 z.2.1 z.2.2.1 .i64 .i64 _ 32 rfl rfl rfl (by rw [z.2.2.2]; omega) (by unfold maxLen; omega) (Nat.le_refl _) ?_; intro w6 hO6 hG6; clear z))
      have HE6 := Lib.hid (HE5.out.grown hG6 (by simp))
      have HO6 := Lib.hid hO6
      have HB6 := Lib.hid (HB5.out.grown hG6 HB5.out.size (fun k hk => by cases hk))
      have HZ6 := Lib.hid (hG6.size)
      have HS5 := Lib.hid HB5.out.size
      clear h0 h1 h2 h3 h4 h5 h6 h7 hO6 hG6 HE5 HB5
      obtain ⟨h0, h1, h2, h3, h4, h5, h6, h7⟩ := hCells_w HE6.out
      go_wp2
      go_loopw [7, 47] (fun pv iv wr => ∃ k : Nat, iv = .int .i64 (k : Nat) ∧ k ≤ 8 ∧ Hid (wr.ownsRow w5.heap.size 5 1 pv (4 * k) (bytesV ((V.toL.take k).flatMap bytesW))) ∧ Hid (Below w.heap.size w wr) ∧ w5.heap.size ≤ wr.heap.size) (fun _ iv _ => 8 - (intOf iv).toNat)
      case atStart => exact ⟨0, rfl, by omega, HO6, HB6, HZ6.out⟩
      case round =>
        clear HO6 HB6 HZ6 HE6 h0 h1 h2 h3 h4 h5 h6 h7
        obtain ⟨k, rfl, hk, HO, HB, hz⟩ := hrel
        by_cases hlt : k < 8
        · have ix := idx_v8 V k hlt
          have HFS := Lib.hid (flat_succ V.toL (k := k) hlt)
          generalize V.toL.getD k 0 = x at *
          have hown := HO.out
          have z := HZ.out
          go_wp2_with (at_builtin; refine wpList_append_own_at _ rfl _ _ 76 rfl w5.heap.size 5 i0 (.int .u8 0) 1 1 Tryz.underlying76 z.1 z.2.1 z.2.2.1 z.2.2.2 rfl (by decide) _ (4 * k) _ rfl (hown.alloc _) ⟨wr.heap.size, 0, none⟩ 4 4 [Value.int .u8 (iW x / 16777216 % 256), Value.int .u8 (iW x / 65536 % 256), Value.int .u8 (iW x / 256 % 256), Value.int .u8 (((x.toNat : Nat) : Int) % 256)] rfl rfl (World.news_of_block (cs := #[Value.int .u8 (iW x / 16777216 % 256), Value.int .u8 (iW x / 65536 % 256), Value.int .u8 (iW x / 256 % 256), Value.int .u8 (((x.toNat : Nat) : Int) % 256)]) (heap_alloc_new wr _)) (by simp [Value.oneCell']) (by unfold maxLen; omega) (by omega) (by simp; omega) ?_; intro v' w7 hown' hgr _ _)
          have HO1 := Lib.hid (show w7.ownsRow w5.heap.size 5 1 v' (4 * (k + 1)) (bytesV ((V.toL.take (k + 1)).flatMap bytesW)) from by
            rw [HFS.out, bytesV_app, ← bytesW_v]
            exact hown')
          have HB1 := Lib.hid ((HB.out.alloc HB.out.size _).grown hgr (by have := HB.out.size; simp; omega) (fun j hj => by have := (hown.lt j hj).1; have := HS5.out; omega))
          have hz1 : w5.heap.size ≤ w7.heap.size := by have := hgr.size; simp at this; omega
          clear hown hown' hgr z ix
          go_wp2
          go_roundw
          case rel => exact ⟨k + 1, by go_num, by omega, HO1, HB1, hz1⟩
          case measure => simp [intOf]; omega
        · obtain rfl : k = 8 := by omega
          have hown := HO.out
          rw [show V.toL.take 8 = V.toL from rfl] at hown
          have hcv := run_convert_own 76 9 5 Tryz.underlying76 Tryz.underlying5 Tryz.underlying9 hown
          clear hown
          go_wp2
          go_ret
          refine ⟨?_, HB.out⟩
          rw [← HPK.out, HVV.out]
          rfl
end Go.Proofs.YtpeepdkeicgkiaaGreatDoor
namespace Go.Proofs.YtpeepdkeicgkiaaGreatDoor
set_option linter.unusedVariables false
set_option linter.unusedSimpArgs false
set_option linter.unusedSectionVars false
open Go.RowKit

set_option maxRecDepth 100000 in
theorem freshLit : freshC = #[Value.int .u32 0, Value.int .u32 0, Value.int .u32 0, Value.int .u32 0, Value.int .u32 0, Value.int .u32 0, Value.int .u32 0, Value.int .u32 0, Value.int .u32 0, Value.int .u32 0, Value.int .u32 0, Value.int .u32 0, Value.int .u32 0, Value.int .u32 0, Value.int .u32 0, Value.int .u32 0, Value.int .u32 0, Value.int .u32 0, Value.int .u32 0, Value.int .u32 0, Value.int .u32 0, Value.int .u32 0, Value.int .u32 0, Value.int .u32 0, Value.int .u32 0, Value.int .u32 0, Value.int .u32 0, Value.int .u32 0, Value.int .u32 0, Value.int .u32 0, Value.int .u32 0, Value.int .u32 0, Value.int .u32 0, Value.int .u32 0, Value.int .u32 0, Value.int .u32 0, Value.int .u32 0, Value.int .u32 0, Value.int .u32 0, Value.int .u32 0, Value.int .u32 0, Value.int .u32 0, Value.int .u32 0, Value.int .u32 0, Value.int .u32 0, Value.int .u32 0, Value.int .u32 0, Value.int .u32 0, Value.int .u32 0, Value.int .u32 0, Value.int .u32 0, Value.int .u32 0, Value.int .u32 0, Value.int .u32 0, Value.int .u32 0, Value.int .u32 0, Value.int .u32 0, Value.int .u32 0, Value.int .u32 0, Value.int .u32 0, Value.int .u32 0, Value.int .u32 0, Value.int .u32 0, Value.int .u32 0, Value.int .u32 0, Value.int .u32 0, Value.int .u32 0, Value.int .u32 0, Value.int .u32 0, Value.int .u32 0, Value.int .u32 0, Value.int .u32 0, .string ⟨#[]⟩, .int .u64 0, .bool false] := rfl
theorem sum_is (s : ByteArray) : (blocksF (blocksF htab s.data.toList) ((bs (restB s.data.toList)).data.toList ++ padP s.size (bs (restB s.data.toList)).size)).toL.flatMap bytesW = sumL s.data.toList := by
  have e1 : (bs (restB s.data.toList)).data.toList = restB s.data.toList := bs_list _
  have e2 : (bs (restB s.data.toList)).size = s.size % 64 := by rw [bs_size, restB_len]; simp
  have e3 : s.data.toList.length = s.size := by simp
  rw [e1, e2, padP_is rfl, blocks_two]
  unfold sumL
  rw [e3]
set_option maxRecDepth 100000 in
set_option maxHeartbeats 3200000 in
theorem sum_any (s : ByteArray) (w : World) (hs : s.size ≤ 140737488355328) :
    Calls Tryz.prog 66 #[.string s] w fun e w' => e = .returned (.string (bs (sumL s.data.toList))) ∧ Below w.heap.size w w' := by
  have HW := Lib.hid fun W (h : Blk W w.heap.size 152 freshC) => write_any w.heap.size false htab ByteArray.empty s 0 W hs (by decide) (by omega) (Or.inr ⟨rfl, rfl, rfl, rfl, h⟩)
  have HB0 := Lib.hid (show Blk (w.alloc (.cells #[Value.int .u32 0, Value.int .u32 0, Value.int .u32 0, Value.int .u32 0, Value.int .u32 0, Value.int .u32 0, Value.int .u32 0, Value.int .u32 0, Value.int .u32 0, Value.int .u32 0, Value.int .u32 0, Value.int .u32 0, Value.int .u32 0, Value.int .u32 0, Value.int .u32 0, Value.int .u32 0, Value.int .u32 0, Value.int .u32 0, Value.int .u32 0, Value.int .u32 0, Value.int .u32 0, Value.int .u32 0, Value.int .u32 0, Value.int .u32 0, Value.int .u32 0, Value.int .u32 0, Value.int .u32 0, Value.int .u32 0, Value.int .u32 0, Value.int .u32 0, Value.int .u32 0, Value.int .u32 0, Value.int .u32 0, Value.int .u32 0, Value.int .u32 0, Value.int .u32 0, Value.int .u32 0, Value.int .u32 0, Value.int .u32 0, Value.int .u32 0, Value.int .u32 0, Value.int .u32 0, Value.int .u32 0, Value.int .u32 0, Value.int .u32 0, Value.int .u32 0, Value.int .u32 0, Value.int .u32 0, Value.int .u32 0, Value.int .u32 0, Value.int .u32 0, Value.int .u32 0, Value.int .u32 0, Value.int .u32 0, Value.int .u32 0, Value.int .u32 0, Value.int .u32 0, Value.int .u32 0, Value.int .u32 0, Value.int .u32 0, Value.int .u32 0, Value.int .u32 0, Value.int .u32 0, Value.int .u32 0, Value.int .u32 0, Value.int .u32 0, Value.int .u32 0, Value.int .u32 0, Value.int .u32 0, Value.int .u32 0, Value.int .u32 0, Value.int .u32 0, .string ⟨#[]⟩, .int .u64 0, .bool false] 152)) w.heap.size 152 freshC from by rw [freshLit]; exact Blk.new w _ _)
  have HE := Lib.hid (sum_is s)
  have HL := Lib.hid (show (bs (restB s.data.toList)).size < 64 from by rw [bs_size, restB_len]; omega)
  go_enter Tryz.func66, Tryz.ntmps66
  go_wp2_with fail
  refine (HW.out _ HB0.out).mono ?_
  rintro e w2 ⟨rfl, hb2, hg2⟩
  have e1 : (ByteArray.empty ++ s).data.toList = s.data.toList := by simp
  have e0 : ((0 + s.size : Nat) : Int) = ((s.size : Nat) : Int) := by rw [Nat.zero_add]
  rw [e1, e0] at hb2
  have HC := Lib.hid (hsum_any w.heap.size (blocksF htab s.data.toList) (bs (restB s.data.toList)) s.size w2 hb2 HL.out hs)
  rw [HE.out] at HC
  have HB2 := Lib.hid (show Below w.heap.size w w2 from ((Below.refl w.heap.size w).alloc (Nat.le_refl _) _).grown hg2 (by simp) (fun k hk => by cases hk; exact Nat.le_refl _))
  clear hb2 hg2 e1 e0 HW HB0
  go_wp2_with fail
  refine HC.out.mono ?_
  rintro e w3 ⟨rfl, hb3⟩
  have HB3 := Lib.hid (HB2.out.trans (hb3.mono HB2.out.size))
  clear hb3 HC
  go_wp2
  go_ret
  exact ⟨rfl, HB3.out⟩
end Go.Proofs.YtpeepdkeicgkiaaGreatDoor
namespace Go.Proofs.YtpeepdkeicgkiaaGreatDoor
set_option linter.unusedVariables false
set_option linter.unusedSimpArgs false
set_option linter.unusedSectionVars false
open Go.RowKit

def digsL : List UInt8 := [48, 49, 50, 51, 52, 53, 54, 55, 56, 57, 97, 98, 99, 100, 101, 102]
def hexD (n : Nat) : UInt8 := digsL.getD n 0
def hexL (l : List UInt8) : List UInt8 := l.flatMap fun c => [hexD (c.toNat / 16), hexD (c.toNat % 16)]
/-- a text's name: the digits of its sum -/
def nameS (s : ByteArray) : ByteArray := bs (hexL (sumL s.data.toList))
theorem hexL_len (l : List UInt8) : (hexL l).length = 2 * l.length := by
  unfold hexL
  induction l with
  | nil => rfl
  | cons c r ih => simp only [List.flatMap_cons, List.length_append, List.length_cons, List.length_nil, ih]; omega
theorem nameS_size (s : ByteArray) : (nameS s).size = 64 := by
  unfold nameS
  rw [bs_size, hexL_len, sumL_len]
theorem hexL_snoc (l : List UInt8) (c : UInt8) : hexL (l ++ [c]) = hexL l ++ [hexD (c.toNat / 16), hexD (c.toNat % 16)] := by
  unfold hexL
  rw [List.flatMap_append]
  simp
theorem and15 : ∀ n : Nat, n < 256 → bits BinOp.and IntKind.u8 (n : Int) 15 = ((n % 16 : Nat) : Int) := by decide +kernel
theorem idx_dig (j : Nat) (h : j < 16) (W : World) : (Instr.index 9 (.string ⟨#[48, 49, 50, 51, 52, 53, 54, 55, 56, 57, 97, 98, 99, 100, 101, 102]⟩) (.int .u8 (j : Nat))).run Tryz.prog W = .ok (.int .u8 ((hexD j).toNat : Int)) W := by
  rcases (by omega : j = 0 ∨ j = 1 ∨ j = 2 ∨ j = 3 ∨ j = 4 ∨ j = 5 ∨ j = 6 ∨ j = 7 ∨ j = 8 ∨ j = 9 ∨ j = 10 ∨ j = 11 ∨ j = 12 ∨ j = 13 ∨ j = 14 ∨ j = 15) with rfl | rfl | rfl | rfl | rfl | rfl | rfl | rfl | rfl | rfl | rfl | rfl | rfl | rfl | rfl | rfl
  all_goals kernel_rfl
set_option maxRecDepth 100000 in
set_option maxHeartbeats 3200000 in
theorem hex_any (s : ByteArray) (w : World) (hs : s.size ≤ 1099511627776) :
    Calls Tryz.prog 65 #[.string s] w fun e w' => e = .returned (.string (bs (hexL s.data.toList))) ∧ Below w.heap.size w w' := by
  obtain ⟨i0, hi0, hz0, hz1, hz2⟩ := info_parts infoByteE
  have HZ := Lib.hid (And.intro hi0 (And.intro hz0 (And.intro hz1 hz2)))
  clear hi0 hz0 hz1 hz2
  go_enter Tryz.func65, Tryz.ntmps65
  go_upto_region 2 with (first
    | (have z := HZ.out; refine wpList_make_own w rfl _ _ 76 rfl w.heap.size 5 i0 (.int .u8 0) 1 Tryz.underlying76 z.1 z.2.1 z.2.2.1 .i64 .i64 _ (2 * s.size) rfl rfl (by omega) (by rw [z.2.2.2]; omega) (by unfold maxLen; omega) (Nat.le_refl _) ?_; intro w1 hO1 hG1; clear z))
  obtain ⟨cap, w2, hcv, hb2, hs2, hcc⟩ := bytes_of_string w1 9 76 5 s Tryz.underlying9 Tryz.underlying76 Tryz.underlying5
  have HO2 := Lib.hid (ownsRow_below hO1 hb2)
  have HB2 := Lib.hid (show Below w.heap.size w w2 from ((Below.refl w.heap.size w).grown hG1 (Nat.le_refl _) (fun k hk => by cases hk)).trans (hb2.mono hG1.size))
  have HC := Lib.hid hcc
  have HZ1 := Lib.hid (hO1.lt w.heap.size rfl).2
  clear hO1 hG1 hcc hb2
  go_wp2
  go_loopw [3, 13] (fun pv iv wr => ∃ (k gq cq : Nat), iv = .int .i64 (k : Nat) ∧ k ≤ s.size ∧ pv = .slice (some ⟨gq, 0, none⟩) (2 * k) cq ∧ gq ≠ w1.heap.size ∧ Hid (wr.ownsRow w.heap.size 5 1 (.slice (some ⟨gq, 0, none⟩) (2 * k) cq) (2 * k) (bytesV (hexL (s.data.toList.take k)))) ∧ Hid (Below w.heap.size w wr) ∧ Hid (∀ j (hj : j < s.size), wr.cell? ⟨w1.heap.size, j, none⟩ = some (.int .u8 (s[j].toNat : Int))) ∧ w1.heap.size < wr.heap.size) (fun _ iv _ => s.size - (intOf iv).toNat)
  case atStart => exact ⟨0, _, _, rfl, Nat.zero_le _, rfl, by have := HZ1.out; omega, HO2, HB2, HC, by omega⟩
  case round =>
    clear HO2 HB2 HC
    obtain ⟨k, gq, cq, rfl, hk, rfl, hne, HO, HB, HC, hz⟩ := hrel
    by_cases hlt : k < s.size
    · have cb := HC.out k hlt
      have hb := s[k].toNat_lt
      have HT := Lib.hid (show hexL (s.data.toList.take (k + 1)) = hexL (s.data.toList.take k) ++ [hexD (s[k].toNat / 16), hexD (s[k].toNat % 16)] by rw [ba_take s k hlt, hexL_snoc])
      have hi : (k : Int) < (s.size : Int) := by omega
      generalize s[k] = c at *
      have ha := and15 c.toNat hb
      have i1 := idx_dig (c.toNat / 16) (by omega)
      have i2 := idx_dig (c.toNat % 16) (by omega)
      rw [show ((c.toNat / 16 : Nat) : Int) = (c.toNat : Int) / 16 from rfl] at i1
      have i3 := i2
      have i4 := i2
      rw [← ha] at i2
      rw [show ((c.toNat % 16 : Nat) : Int) = (c.toNat : Int) % 16 from rfl] at i4
      have g1 : (0 : Int) ≤ (c.toNat : Int) / 16 := by omega
      have hown := HO.out
      have z := HZ.out
      obtain ⟨wn, rfl⟩ : ∃ wn : World, wn = wr := ⟨_, rfl⟩
      go_upto_region 5 with fail
      go_region_law (refine step_append_lies _ (by rfl) _ _ _ (by rfl) w.heap.size 5 i0 _ 1 1 Tryz.underlying76 z.1 z.2.1 z.2.2.1 z.2.2.2 rfl (by decide) (.slice (some ⟨gq, 0, none⟩) (2 * k) cq) (2 * k) (bytesV (hexL (s.data.toList.take k))) (by rfl) ((hown.drew).alloc _) ⟨wn.heap.size, 0, none⟩ 2 2 [.int .u8 (hexD (c.toNat / 16)).toNat, .int .u8 (hexD (c.toNat % 16)).toNat] (by rfl) (by rfl) (World.news_of_block (cs := #[.int .u8 (hexD (c.toNat / 16)).toNat, .int .u8 (hexD (c.toNat % 16)).toNat]) (heap_alloc_new wn.drew _)) (by simp [Value.oneCell']) (by decide) (by unfold maxLen; omega) (by omega) (by have := HB.out.size; simp; omega) _ rfl ?_; intro g5 cap5 w5 hown5 hg5 hat hlt5)
      all_goals
        have HO5 := Lib.hid (show w5.ownsRow w.heap.size 5 1 (.slice (some ⟨g5, 0, none⟩) (2 * (k + 1)) cap5) (2 * (k + 1)) (bytesV (hexL (s.data.toList.take (k + 1)))) from by
          rw [HT.out, bytesV_app]
          exact hown5)
        have HB5 := Lib.hid (((HB.out.drew).alloc (by show w.heap.size ≤ wn.heap.size; exact HB.out.size) _).grown hg5 (by have := HB.out.size; simp; omega) (fun j hj => (hown.lt j hj).1))
        have HC5 := Lib.hid (show ∀ j (hj : j < s.size), w5.cell? ⟨w1.heap.size, j, none⟩ = some (.int .u8 (s[j].toNat : Int)) from fun j hj => hg5.cell (((World.grownBy_alloc wn.drew _ none).cell (HC.out j hj) (by simp))) (by simp only [Value.ownBlock, ne_eq, Option.some.injEq]; omega))
        have hne5 : g5 ≠ w1.heap.size := by
          rcases hat with e | e
          · simp only [Value.ownBlock, Option.some.injEq] at e; omega
          · simp at e; omega
        have hz5 : w1.heap.size < w5.heap.size := by have := hg5.size; simp at this; omega
        clear hown hown5 hg5 hat hlt5 z i1 i2 i3 i4 ha cb
        go_wp2
        go_roundw
        case rel => exact ⟨k + 1, g5, cap5, by go_num, by omega, rfl, hne5, HO5, HB5, HC5, hz5⟩
        case measure => simp [intOf]; omega
    · obtain rfl : k = s.size := by omega
      have hown := HO.out
      rw [ba_take_all] at hown
      have hcv2 := run_convert_own 76 9 5 Tryz.underlying76 Tryz.underlying5 Tryz.underlying9 hown
      clear hown
      go_wp2
      go_ret
      exact ⟨rfl, HB.out⟩
set_option maxRecDepth 100000 in
theorem dname_any (s : ByteArray) (w : World) (hs : s.size ≤ 140737488355328) :
    Calls Tryz.prog 31 #[.string s] w fun e w' => e = .returned (.string (nameS s)) ∧ Below w.heap.size w w' := by
  have HS := Lib.hid (sum_any s w hs)
  have HX := Lib.hid fun W => hex_any (bs (sumL s.data.toList)) W (by rw [bs_size, sumL_len]; decide)
  have HN := Lib.hid (show bs (hexL (bs (sumL s.data.toList)).data.toList) = nameS s by rw [bs_list]; rfl)
  rw [HN.out] at HX
  go_enter Tryz.func31, Tryz.ntmps31
  go_wp2_with fail
  refine HS.out.mono ?_
  rintro e w1 ⟨rfl, hb1⟩
  have HB1 := Lib.hid hb1
  clear hb1 HS
  go_wp2_with fail
  refine (HX.out _).mono ?_
  rintro e w2 ⟨rfl, hb2⟩
  have HB2 := Lib.hid (HB1.out.trans (hb2.mono HB1.out.size))
  clear hb2 HX
  go_wp2
  go_ret
  exact ⟨rfl, HB2.out⟩
end Go.Proofs.YtpeepdkeicgkiaaGreatDoor
namespace Go.Proofs.YtpeepdkeicgkiaaGreatDoor
set_option linter.unusedVariables false
set_option linter.unusedSimpArgs false
set_option linter.unusedSectionVars false
open Go.RowKit

set_option maxRecDepth 100000 in
theorem hexP_is : ∀ c : UInt8, (pairOf c.toNat).data.toList = [hexD (c.toNat / 16), hexD (c.toNat % 16)] := by
  intro c
  have h : ∀ n, n < 256 → (pairOf n).data.toList = [hexD (n / 16), hexD (n % 16)] := by decide
  exact h _ c.toNat_lt
theorem bs_pair (c : UInt8) : bs [hexD (c.toNat / 16), hexD (c.toNat % 16)] = pairOf c.toNat := by
  apply ByteArray.ext
  apply Array.toList_inj.1
  rw [hexP_is]; simp [bs]
set_option maxRecDepth 100000 in
set_option maxHeartbeats 3200000 in
theorem dhex_any (s : ByteArray) (w : World) (hs : s.size ≤ 1048576) :
    Calls Tryz.prog 43 #[.string s] w fun e w' => e = .returned (.string (bs (hexL s.data.toList))) ∧ Below w.heap.size w w' := by
  have H1 := Lib.hid (pairs_any w)
  go_enter Tryz.func43, Tryz.ntmps43
  go_wp2_with fail
  refine H1.out.mono ?_
  rintro e w1 ⟨g, cap, rfl, hown, hb⟩
  have HC := Lib.hid fun (j : Nat) (hj : j < 256) => (show w1.cell? ⟨g, j, none⟩ = some (.string (pairOf j)) by
    rw [hown.cellAt j (by omega)]
    simp [pairsV, hj])
  have HGL := Lib.hid (hown.lt g rfl).2
  have HB := Lib.hid hb
  clear hown H1 hb
  obtain ⟨cap2, w2, hcv, hb2, hs2, hcc⟩ := bytes_of_string w1 9 76 5 s Tryz.underlying9 Tryz.underlying76 Tryz.underlying5
  have HC2 := Lib.hid fun (j : Nat) (hj : j < 256) => (hb2.cell (p := ⟨g, j, none⟩) HGL.out).trans (HC.out j hj)
  have HS := Lib.hid hcc
  have HB2 := Lib.hid (HB.out.trans (hb2.mono HB.out.size))
  clear hcc hb2 HC HB HGL hs2
  go_wp2
  go_loopw [4, 11] (fun tv iv wr => ∃ k : Nat, tv = .string (bs (hexL (s.data.toList.take k))) ∧ iv = .int .i64 (k : Nat) ∧ k ≤ s.size ∧ wr = w2) (fun _ iv _ => s.size - (intOf iv).toNat)
  case atStart => exact ⟨0, rfl, rfl, Nat.zero_le _, rfl⟩
  case round =>
    obtain ⟨k, rfl, rfl, hk, rfl⟩ := hrel
    by_cases hlt : k < s.size
    · have cb := HS.out k hlt
      have HT := Lib.hid (show bs (hexL (s.data.toList.take (k + 1))) = bs (hexL (s.data.toList.take k)) ++ pairOf s[k].toNat by rw [ba_take s k hlt, hexL_snoc, ← bs_app, bs_pair])
      have hlen : (hexL (s.data.toList.take k)).length = 2 * k := by
        rw [hexL_len, List.length_take]; simp; omega
      have hi : (k : Int) < (s.size : Int) := by omega
      have cp := HC2.out s[k].toNat s[k].toNat_lt
      have hc9 := s[k].toNat_lt
      generalize s[k] = c at *
      have hzz : (bs (hexL (s.data.toList.take k))).size + (pairOf c.toNat).size ≤ 4194304 := by
        show (hexL (s.data.toList.take k)).toArray.size + 2 ≤ _
        simp [hlen]; omega
      generalize bs (hexL (s.data.toList.take k)) = T at *
      have hc1 : (c.toNat : Int) < 256 := by omega
      clear hlen HC2 HS hc9
      go_wp2
      go_roundw
      case rel => exact ⟨k + 1, by rw [HT.out], by go_num, by omega, trivial⟩
      case measure => simp [intOf]; omega
    · obtain rfl : k = s.size := by omega
      have e : s.data.toList.take s.size = s.data.toList := List.take_of_length_le (by simp)
      rw [e]
      clear e
      have hi : ¬ (s.size : Int) < (s.size : Int) := by omega
      go_wp2
      go_ret
      exact ⟨rfl, HB2.out⟩
end Go.Proofs.YtpeepdkeicgkiaaGreatDoor
namespace Go.Proofs.YtpeepdkeicgkiaaGreatDoor
set_option linter.unusedVariables false
set_option linter.unusedSimpArgs false
set_option linter.unusedSectionVars false
open Go.RowKit

set_option maxRecDepth 100000 in
theorem ddigest_any (s : ByteArray) (w : World) (hs : s.size ≤ 16777216) :
    Calls Tryz.prog 15 #[.string s] w fun e w' => e = .returned (.string (nameS s)) ∧ Below w.heap.size w w' := by
  have HS := Lib.hid (dsum_any s w hs)
  have HX := Lib.hid fun W => dhex_any (bs (sumL s.data.toList)) W (by rw [bs_size, sumL_len]; decide)
  have HN := Lib.hid (show bs (hexL (bs (sumL s.data.toList)).data.toList) = nameS s by rw [bs_list]; rfl)
  rw [HN.out] at HX
  go_enter Tryz.func15, Tryz.ntmps15
  go_wp2_with fail
  refine HS.out.mono ?_
  rintro e w1 ⟨rfl, hb1⟩
  have HB1 := Lib.hid hb1
  clear hb1 HS
  go_wp2_with fail
  refine (HX.out _).mono ?_
  rintro e w2 ⟨rfl, hb2⟩
  have HB2 := Lib.hid (HB1.out.trans (hb2.mono HB1.out.size))
  clear hb2 HX
  go_wp2
  go_ret
  exact ⟨rfl, HB2.out⟩
end Go.Proofs.YtpeepdkeicgkiaaGreatDoor
