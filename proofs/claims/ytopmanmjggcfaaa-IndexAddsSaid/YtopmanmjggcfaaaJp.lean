/- The index's laws: IndexAdds. -/
import Derived.Test.YtopmanmjggcfaaaJo
import Derived.Test.YtopmanmjggcfaaaJj
import Derived.Test.YtopmanmjggcfaaaQb
namespace Go.Proofs.Ytopmanmjggcfaaa
open Go.RowKit

theorem infoHr : (Try.prog.info? 47).map (fun i => (i.zero, i.size, i.bytes)) = some (some (.agg #[.string ⟨#[]⟩, .int .i64 0, .int .u32 0, .int .i64 0, .int .i64 0, .int .i64 0]), 6, 56) := by kernel_rfl
/-- a row of packs -/
def PksIn (w : World) (v : Value) (l : List Pk) : Prop := ∃ A c, v = .slice A l.length c ∧ l.length ≤ 9223372036854775807 ∧ (∀ p ∈ l, PkOk p ∧ p.heads.length ≤ 9223372036854775807) ∧
  ∀ i (h : i < l.length), ∃ g o B d, A = some ⟨g, o, none⟩ ∧ g < w.heap.size ∧ w.cell? ⟨g, o + i * 2, none⟩ = some (.string l[i].name) ∧ w.cell? ⟨g, o + i * 2 + 1, none⟩ = some (.slice B l[i].heads.length d) ∧ RowA w w.heap.size 6 B (l[i].heads.map hdC)
theorem ite_cl (m : Int) : (if 4294967295 < m then 4294967295 else m) = min m 4294967295 := by omega
set_option maxRecDepth 100000 in
set_option maxHeartbeats 6400000 in
theorem adds_all (l : List Pk) (v : Value) (name : ByteArray) (w : World) (hv : PksIn w v l) (hnz : name.size ≤ 9223372036854775807) :
    Calls Try.prog 4 #[v, .string name] w fun e w' => e = .returned (.bool true) ∧ Below w.heap.size w w' := by
  obtain ⟨A0, c0, rfl, hl, hok, hel⟩ := hv
  have HOK := Lib.hid hok
  have HEL := Lib.hid hel
  clear hok hel
  have hb0 : Both w ((w.alloc (.cells #[.map none, .slice none 0 0] 27)).alloc (.cells #[.slice none 0 0, .slice none 0 0] 43)) w.heap.size (w.heap.size + 1) none none ⟨[], []⟩ none 0 none 0 := by
    have hy := Blk.new (w.alloc (.cells #[.map none, .slice none 0 0] 27)) 43 #[.slice none 0 0, .slice none 0 0]
    rw [World.size_alloc] at hy
    exact ⟨(OneIx.made w).below ((Below.refl _ _).alloc (Nat.le_refl _) _), hy, (fun h => absurd h (Nat.lt_irrefl 0)), (fun _ => rfl), (fun h => absurd h (Nat.lt_irrefl 0)), (by
      rintro (e | e | e)
      · omega
      · cases e
      · cases e), (fun g o e => by cases e), (fun g o e => by cases e), by omega⟩
  have HB0 := Lib.hid hb0
  clear hb0
  go_enter Try.func4, Try.ntmps4
  go_upto_region 3 with fail
  generalize (w.alloc (.cells #[.map none, .slice none 0 0] 27)).alloc (.cells #[.slice none 0 0, .slice none 0 0] 43) = w0 at *
  go_wp2
  go_loopw [7] (fun i wr => ∃ (k : Nat) (mb rb : Option Nat) (A : Option Addr) (c : Nat) (B : Option Addr) (d : Nat), i = .int .i64 (k : Nat) ∧ k ≤ l.length ∧ k ≤ 10 ∧ Both w wr w.heap.size (w.heap.size + 1) mb rb (pkIx (l.take k)) A c B d) (fun i _ => 10 - (intOf i).toNat)
  case atStart => exact ⟨0, none, none, none, 0, none, 0, rfl, Nat.zero_le _, Nat.zero_le _, HB0.out⟩
  case round =>
    obtain ⟨k, mb, rb, A, c, B, d, rfl, hk, hk10, hb⟩ := hrel
    have HB := Lib.hid hb
    clear hb HB0
    by_cases hgo : k < l.length ∧ k < 10
    · obtain ⟨hkl, hk1⟩ := hgo
      have HS := Lib.hid (pkIx_snoc l k hkl)
      have hpk := HOK.out _ (List.getElem_mem hkl)
      obtain ⟨gL, oL, Bh, dh, rfl, hgL, hcn, hch, hrh⟩ := HEL.out k hkl
      have HFW := Lib.hid ((pkIx_few (fun p hp => (HOK.out p hp).1) k (by omega)))
      have hn0 : wr.cell? ⟨gL, oL + k * 2, none⟩ = some (.string l[k].name) := (HB.out.xi.bel.cell (p := ⟨gL, oL + k * 2, none⟩) hgL).trans hcn
      have hh0 : wr.cell? ⟨gL, oL + k * 2 + 1, none⟩ = some (.slice Bh l[k].heads.length dh) := (HB.out.xi.bel.cell (p := ⟨gL, oL + k * 2 + 1, none⟩) hgL).trans hch
      have HRH := Lib.hid (RowA.below hrh HB.out.xi.bel)
      have HPK := Lib.hid hpk
      have HCN := Lib.hid hcn
      clear hcn hch hrh hpk
      generalize l[k] = pk at *
      generalize pkIx (l.take k) = X at *
      have hk0 : (0 : Int) ≤ (k : Int) := by omega
      have hki : (k : Int) < (l.length : Int) := by omega
      have hkt : (k : Int) < 10 := by omega
      have hk3 : ((k : Int)).toNat = k := by omega
      go_upto_region 7 with fail
      obtain ⟨wq, rfl⟩ : ∃ wq : World, wq = wr := ⟨_, rfl⟩
      have HO1 := Lib.hid (show ((wq.alloc (.cells #[] 32)).alloc (.cells #[] 47)).ownsRow wq.heap.size 32 6 (.slice (some ⟨wq.heap.size, 0, none⟩) 0 0) 0 (hdsC ((pk.heads.take 0).map clH)) from
        (World.ownsRow_lit (e := 32) (size := 6) (base := wq.heap.size) wq #[] 0 (Nat.le_refl _) (by decide) rfl).alloc _)
      have ho2 := World.ownsRow_lit (e := 47) (size := 6) (base := wq.heap.size) (wq.alloc (.cells #[] 32)) #[] 0 (by simp) (by decide) rfl
      rw [World.size_alloc] at ho2
      have HO2 := Lib.hid (show ((wq.alloc (.cells #[] 32)).alloc (.cells #[] 47)).ownsRow wq.heap.size 47 6 (.slice (some ⟨wq.heap.size + 1, 0, none⟩) 0 0) 0 (hdsC ((pk.heads.take 0).map clH)) from ho2)
      have HBI := Lib.hid (((Below.refl wq.heap.size wq).alloc (Nat.le_refl _) (.cells #[] 32)).alloc (by simp) (.cells #[] 47))
      clear ho2
      go_wp2
      go_loopw [8, 9, 10] (fun hv tv jv wi => ∃ (j : Nat) (A1 A2 : Option Addr) (c1 c2 : Nat), hv = .slice A1 j c1 ∧ tv = .slice A2 j c2 ∧ jv = .int .i64 (j : Nat) ∧ j ≤ pk.heads.length ∧ j ≤ 12 ∧ wi.ownsRow wq.heap.size 32 6 (.slice A1 j c1) j (hdsC ((pk.heads.take j).map clH)) ∧ wi.ownsRow wq.heap.size 47 6 (.slice A2 j c2) j (hdsC ((pk.heads.take j).map clH)) ∧ (∀ k, (Value.slice A1 j c1).ownBlock = some k → (Value.slice A2 j c2).ownBlock ≠ some k) ∧ Below wq.heap.size wq wi) (fun _ _ jv _ => 12 - (intOf jv).toNat)
      case atStart => exact ⟨0, some ⟨wq.heap.size, 0, none⟩, some ⟨wq.heap.size + 1, 0, none⟩, 0, 0, rfl, rfl, rfl, Nat.zero_le _, Nat.zero_le _, HO1.out, HO2.out, (fun k h1 h2 => by simp [Value.ownBlock] at h1 h2; omega), HBI.out⟩
      case round =>
        obtain ⟨j, A1, A2, c1, c2, rfl, rfl, rfl, hj, hj12, ho1, ho2, hap, hbi⟩ := hrel
        have HO1 := Lib.hid ho1
        have HO2 := Lib.hid ho2
        have HAP := Lib.hid hap
        have HBI := Lib.hid hbi
        have hh1 : wr.cell? ⟨gL, oL + k * 2 + 1, none⟩ = some (.slice Bh pk.heads.length dh) := (hbi.cell (p := ⟨gL, oL + k * 2 + 1, none⟩) (World.block_lt_of_cell? _ _ hh0)).trans hh0
        have hn1 : wr.cell? ⟨gL, oL + k * 2, none⟩ = some (.string pk.name) := (hbi.cell (p := ⟨gL, oL + k * 2, none⟩) (World.block_lt_of_cell? _ _ hn0)).trans hn0
        clear ho1 ho2 hap hbi
        by_cases hgo2 : j < pk.heads.length ∧ j < 12
        · obtain ⟨hjl, hj2⟩ := hgo2
          have hej := List.getElem?_eq_getElem hjl
          obtain ⟨gh, oh, rfl, hgh, hhc⟩ := HRH.out (by rw [List.length_map]; omega)
          have hck := hhc j (hdC pk.heads[j]) (by rw [List.getElem?_map, hej]; rfl)
          have HCK := Lib.hid fun (i : Nat) (u : Value) (hi : (hdC pk.heads[j])[i]? = some u) => (HBI.out.cell (p := ⟨gh, oh + j * 6 + i, none⟩) hgh).trans (hck i u hi)
          have HTK := Lib.hid (show (pk.heads.take (j + 1)).map clH = (pk.heads.take j).map clH ++ [clH pk.heads[j]] by rw [List.take_succ_eq_append_getElem hjl, List.map_append]; rfl)
          clear hck hhc hej
          generalize pk.heads[j] = hd at *
          have q0 : wr.cell? ⟨gh, oh + j * 6, none⟩ = some (.string hd.name) := HCK.out 0 _ rfl
          have q1 : wr.cell? ⟨gh, oh + j * 6 + 1, none⟩ = some (.int .i64 hd.method) := HCK.out 1 _ rfl
          have q2 : wr.cell? ⟨gh, oh + j * 6 + 2, none⟩ = some (.int .u32 hd.crc) := HCK.out 2 _ rfl
          have q3 : wr.cell? ⟨gh, oh + j * 6 + 3, none⟩ = some (.int .i64 hd.packed) := HCK.out 3 _ rfl
          have q4 : wr.cell? ⟨gh, oh + j * 6 + 4, none⟩ = some (.int .i64 hd.size) := HCK.out 4 _ rfl
          have q5 : wr.cell? ⟨gh, oh + j * 6 + 5, none⟩ = some (.int .i64 hd.at_) := HCK.out 5 _ rfl
          have hj0 : (0 : Int) ≤ (j : Int) := by omega
          have hjh : (j : Int) < (pk.heads.length : Int) := by omega
          have hjt : (j : Int) < 12 := by omega
          have hj3 : ((j : Int)).toNat = j := by omega
          clear HCK
          go_upto_region 11 with fail
          have hka := Blk.new wr 32 #[.string hd.name, .int .i64 hd.method, .int .u32 hd.crc, .int .i64 hd.packed, .int .i64 hd.size, .int .i64 hd.at_]
          have hba : Below wr.heap.size wr (wr.alloc (.cells #[.string hd.name, .int .i64 hd.method, .int .u32 hd.crc, .int .i64 hd.packed, .int .i64 hd.size, .int .i64 hd.at_] 32)) := (Below.refl _ _).alloc (Nat.le_refl _) _
          generalize wr.alloc (.cells #[.string hd.name, .int .i64 hd.method, .int .u32 hd.crc, .int .i64 hd.packed, .int .i64 hd.size, .int .i64 hd.at_] 32) = wa at *
          have a1 : wa.cell? ⟨wr.heap.size, 1, none⟩ = some (.int .i64 hd.method) := hka.cell 1
          have a3 : wa.cell? ⟨wr.heap.size, 3, none⟩ = some (.int .i64 hd.packed) := hka.cell 3
          have a4 : wa.cell? ⟨wr.heap.size, 4, none⟩ = some (.int .i64 hd.size) := hka.cell 4
          have a5 : wa.cell? ⟨wr.heap.size, 5, none⟩ = some (.int .i64 hd.at_) := hka.cell 5
          have e1 := hka.frozen 1
          have e3 := hka.frozen 3
          have e4 := hka.frozen 4
          have e5 := hka.frozen 5
          have HKA := Lib.hid hka
          have HBA := Lib.hid hba
          clear hka hba q0 q1 q2 q3 q4 q5
          go_upto_region 15 with fail
          have hk4 : Blk ((((wa.setCell ⟨wr.heap.size, 1, none⟩ (.int .i64 (max 0 (min hd.method 4294967295)))).setCell ⟨wr.heap.size, 3, none⟩ (.int .i64 (max 0 (min hd.packed 4294967295)))).setCell ⟨wr.heap.size, 4, none⟩ (.int .i64 (max 0 (min hd.size 4294967295)))).setCell ⟨wr.heap.size, 5, none⟩ (.int .i64 (max 0 (min hd.at_ 4294967295)))) wr.heap.size 32 #[.string hd.name, .int .i64 (clN hd.method), .int .u32 hd.crc, .int .i64 (clN hd.packed), .int .i64 (clN hd.size), .int .i64 (clN hd.at_)] := by
            have := (((HKA.out.set_ 1 (.int .i64 (clN hd.method))).set_ 3 (.int .i64 (clN hd.packed))).set_ 4 (.int .i64 (clN hd.size))).set_ 5 (.int .i64 (clN hd.at_))
            simpa [clN] using this
          have hb4 : Below wr.heap.size wr ((((wa.setCell ⟨wr.heap.size, 1, none⟩ (.int .i64 (max 0 (min hd.method 4294967295)))).setCell ⟨wr.heap.size, 3, none⟩ (.int .i64 (max 0 (min hd.packed 4294967295)))).setCell ⟨wr.heap.size, 4, none⟩ (.int .i64 (max 0 (min hd.size 4294967295)))).setCell ⟨wr.heap.size, 5, none⟩ (.int .i64 (max 0 (min hd.at_ 4294967295)))) :=
            (((HBA.out.setCell (p := ⟨wr.heap.size, 1, none⟩) (Nat.le_refl _) _).setCell (p := ⟨wr.heap.size, 3, none⟩) (Nat.le_refl _) _).setCell (p := ⟨wr.heap.size, 4, none⟩) (Nat.le_refl _) _).setCell (p := ⟨wr.heap.size, 5, none⟩) (Nat.le_refl _) _
          generalize (((wa.setCell ⟨wr.heap.size, 1, none⟩ (.int .i64 (max 0 (min hd.method 4294967295)))).setCell ⟨wr.heap.size, 3, none⟩ (.int .i64 (max 0 (min hd.packed 4294967295)))).setCell ⟨wr.heap.size, 4, none⟩ (.int .i64 (max 0 (min hd.size 4294967295)))).setCell ⟨wr.heap.size, 5, none⟩ (.int .i64 (max 0 (min hd.at_ 4294967295))) = w4 at *
          have HK4 := Lib.hid hk4
          have HB4 := Lib.hid (HBI.out.trans (hb4.mono HBI.out.size))
          have HO14 := Lib.hid (own_at HO1.out fun i hi => hb4.block i (HO1.out.lt i hi).2)
          have HO24 := Lib.hid (own_at HO2.out fun i hi => hb4.block i (HO2.out.lt i hi).2)
          have HL1 := Lib.hid fun i (h : (Value.slice A1 j c1).ownBlock = some i) => (HO1.out.lt i h).2
          have HL2 := Lib.hid fun i (h : (Value.slice A2 j c2).ownBlock = some i) => (HO2.out.lt i h).2
          have hcp4 : wr.heap.size < w4.heap.size := hk4.lt
          clear hk4 hb4 a1 a3 a4 a5 e1 e3 e4 e5 HKA HBA HO1 HO2 HBI
          have b0 : w4.cell? ⟨wr.heap.size, 0, none⟩ = some (.string hd.name) := HK4.out.cell 0
          have b1 : w4.cell? ⟨wr.heap.size, 1, none⟩ = some (.int .i64 (clN hd.method)) := HK4.out.cell 1
          have b2 : w4.cell? ⟨wr.heap.size, 2, none⟩ = some (.int .u32 hd.crc) := HK4.out.cell 2
          have b3 : w4.cell? ⟨wr.heap.size, 3, none⟩ = some (.int .i64 (clN hd.packed)) := HK4.out.cell 3
          have b4 : w4.cell? ⟨wr.heap.size, 4, none⟩ = some (.int .i64 (clN hd.size)) := HK4.out.cell 4
          have b5 : w4.cell? ⟨wr.heap.size, 5, none⟩ = some (.int .i64 (clN hd.at_)) := HK4.out.cell 5
          go_wp2_with (at_builtin; refine wpList_app1 rfl _ _ 22 rfl wq.heap.size 32 Try.underlying22 infoHd rfl (by decide) _ j (hdsC ((pk.heads.take j).map clH)) rfl HO14.out _ rfl rfl (by simp [Value.oneCell']) (by omega) (by omega) HB4.out.size ?_)
          intro g5 cap5 w5 ho5 hg5 hb5 hl5
          have hn5 : ∀ i, (Value.slice A2 j c2).ownBlock = some i → i ≠ g5 := fun i hi e => by
            subst e
            rcases hl5 with h | h
            · exact HAP.out i h hi
            · have := HL2.out i hi; omega
          have HO15 := Lib.hid (show w5.ownsRow wq.heap.size 32 6 (.slice (some ⟨g5, 0, none⟩) (j + 1) cap5) (j + 1) (hdsC ((pk.heads.take (j + 1)).map clH)) by rw [HTK.out, hdsC_snoc]; simpa [hdC, clH] using ho5)
          have HO25 := Lib.hid (HO24.out.kept hg5 (by
            cases hv : (Value.slice A2 j c2).ownBlock with
            | none => exact .inl rfl
            | some i => exact .inr fun e => HAP.out i e.symm hv))
          have HK5 := Lib.hid (HK4.out.grown hg5 (fun e => absurd (HL1.out _ e.symm) (Nat.lt_irrefl _)))
          have HB5 := Lib.hid (HB4.out.trans hb5)
          have HN5 := Lib.hid hn5
          have hs5 : w4.heap.size ≤ w5.heap.size := hg5.size
          have HG5 := Lib.hid (show g5 < w5.heap.size from (ho5.lt g5 rfl).2)
          clear ho5 hg5 hb5 hl5 hn5 b0 b1 b2 b3 b4 b5 HO14 HO24 HK4 HB4
          have b0 : w5.cell? ⟨wr.heap.size, 0, none⟩ = some (.string hd.name) := HK5.out.cell 0
          have b1 : w5.cell? ⟨wr.heap.size, 1, none⟩ = some (.int .i64 (clN hd.method)) := HK5.out.cell 1
          have b2 : w5.cell? ⟨wr.heap.size, 2, none⟩ = some (.int .u32 hd.crc) := HK5.out.cell 2
          have b3 : w5.cell? ⟨wr.heap.size, 3, none⟩ = some (.int .i64 (clN hd.packed)) := HK5.out.cell 3
          have b4 : w5.cell? ⟨wr.heap.size, 4, none⟩ = some (.int .i64 (clN hd.size)) := HK5.out.cell 4
          have b5 : w5.cell? ⟨wr.heap.size, 5, none⟩ = some (.int .i64 (clN hd.at_)) := HK5.out.cell 5
          go_wp2_with (at_builtin; refine wpList_app1 rfl _ _ 44 rfl wq.heap.size 47 Try.underlying44 infoHr rfl (by decide) _ j (hdsC ((pk.heads.take j).map clH)) rfl HO25.out _ rfl rfl (by simp [Value.oneCell']) (by omega) (by omega) HB5.out.size ?_)
          intro g6 cap6 w6 ho6 hg6 hb6 hl6
          have HO26 := Lib.hid (show w6.ownsRow wq.heap.size 47 6 (.slice (some ⟨g6, 0, none⟩) (j + 1) cap6) (j + 1) (hdsC ((pk.heads.take (j + 1)).map clH)) by rw [HTK.out, hdsC_snoc]; simpa [hdC, clH] using ho6)
          have HO16 := Lib.hid (HO15.out.kept hg6 (.inr fun e => HN5.out g5 e.symm rfl))
          have HA6 := Lib.hid (show ∀ i, (Value.slice (some ⟨g5, 0, none⟩) (j + 1) cap5).ownBlock = some i → (Value.slice (some ⟨g6, 0, none⟩) (j + 1) cap6).ownBlock ≠ some i from fun i h1 h2 => by
            obtain rfl : g5 = i := by simpa [Value.ownBlock] using h1
            obtain rfl : g6 = g5 := by simpa [Value.ownBlock] using h2
            rcases hl6 with h | h
            · exact HN5.out g6 h rfl
            · have := HG5.out; omega)
          have HB6 := Lib.hid (HB5.out.trans hb6)
          clear ho6 hg6 hb6 hl6 b0 b1 b2 b3 b4 b5
          go_wp2
          go_roundw
          case rel => exact ⟨j + 1, some ⟨g5, 0, none⟩, some ⟨g6, 0, none⟩, cap5, cap6, by go_num, by go_num, by go_num, by omega, by omega, HO16.out, HO26.out, HA6.out, HB6.out⟩
          case measure => simp [intOf]; omega
        · have hjc : ¬ (j : Int) < (pk.heads.length : Int) ∨ ((j : Int) < (pk.heads.length : Int) ∧ ¬ (j : Int) < 12) := by omega
          have HJ := Lib.hid (show (pk.heads.take j).map clH = clHs pk.heads ∧ j = (clHs pk.heads).length by
            have h1 : pk.heads.take j = pk.heads.take 12 := by
              rcases hjc with h | ⟨_, h⟩
              · rw [List.take_of_length_le (by omega), List.take_of_length_le (by omega)]
              · have : j = 12 := by omega
                rw [this]
            unfold clHs
            rw [h1]
            refine ⟨rfl, ?_⟩
            rw [List.length_map, List.length_take]
            omega)
          have HBW := Lib.hid (HB.out.below HBI.out)
          have hra := own_rowA (l := ((pk.heads.take j).map clH).map hdC) (by decide) (fun x hx => by obtain ⟨p, _, rfl⟩ := List.mem_map.1 hx; rfl) HO1.out
          have hrb := own_rowA (l := ((pk.heads.take j).map clH).map hdC) (by decide) (fun x hx => by obtain ⟨p, _, rfl⟩ := List.mem_map.1 hx; rfl) HO2.out
          have hfa : ∀ g o, A1 = some ⟨g, o, none⟩ → ¬ IxF w.heap.size mb rb g := fun g o e hf => by
            subst e
            have h1 := (HO1.out.lt g rfl).1
            have h2 := HB.out.xi.ix.lt g hf
            omega
          have hfb : ∀ g o, A2 = some ⟨g, o, none⟩ → ¬ IxF w.heap.size mb rb g := fun g o e hf => by
            subst e
            have h1 := (HO2.out.lt g rfl).1
            have h2 := HB.out.xi.ix.lt g hf
            omega
          have HX1 := Lib.hid (Ix.Few.add HFW.out pk.name (clHs pk.heads) HPK.out.1.1 (clHs_ok HPK.out.1))
          have hca := oneAdd HBW.out.xi HFW.out (by omega) (by omega) pk.name (clHs pk.heads) A1 c1 (by rw [← HJ.out.1]; exact hra.1) hfa (by have := clHs_len pk.heads; omega) HPK.out.1.1 (clHs_ok HPK.out.1)
          rw [← HJ.out.2] at hca
          have hrb2 : RowA wr wr.heap.size 6 A2 ((clHs pk.heads).map hdC) := by rw [← HJ.out.1]; exact hrb.1
          have HCA := Lib.hid hca
          have HRB := Lib.hid hrb2
          have HFB := Lib.hid hfb
          have HVA := Lib.hid (valsI_add HFW.out.ok pk.name (clHs pk.heads))
          have hra8 := fun W (h1 : StrsA W W.heap.size A X.packs) (h2 : RowA W W.heap.size 7 B ((valsI X).map plC)) (h3 : RowA W W.heap.size 6 A2 ((clHs pk.heads).map hdC)) => radd_any X.packs (valsI X) A B c d pk.name A2 c2 (clHs pk.heads) W h1 HBW.out.nl h2 h3 (by have := HFW.out.np; omega) (by have := HFW.out.nq; rw [valsI_len]; omega) (by have := clHs_len pk.heads; omega)
          unfold rixV at hra8
          rw [← HJ.out.2] at hra8
          have HRA := Lib.hid hra8
          clear hra8
          clear hca hrb2 hra hrb hfa hfb hh0 hn0 HO1 HO2 HAP HB
          rcases hjc with hjc | ⟨hjc, hjc2⟩
          all_goals
            go_wp2_with fail
            refine HCA.out.mono ?_
            rintro e w7 ⟨rfl, mb7, rb7, hox, hgx⟩
            have HH7 := Lib.hid (Both.half HBW.out hox hgx)
            have HR7 := Lib.hid (RowA.apart HRB.out hgx HFB.out)
            have hn7 : w7.cell? ⟨gL, oL + k * 2, none⟩ = some (.string pk.name) := (hox.bel.cell (p := ⟨gL, oL + k * 2, none⟩) hgL).trans HCN.out
            have y0 : w7.cell? ⟨w.heap.size + 1, 0, none⟩ = some (.slice A X.packs.length c) := HH7.out.yb.cell 0
            have y1 : w7.cell? ⟨w.heap.size + 1, 1, none⟩ = some (.slice B (valsI X).length d) := HH7.out.yb.cell 1
            have z0 := HH7.out.yb.frozen 0
            have z1 := HH7.out.yb.frozen 1
            clear hox hgx HCA hh1 hn1
            go_upto_region 18 with fail
            go_region_law (first
              | (go_simp; go_at_call 12; (with_reducible refine (HRA.out _ (HH7.out.st.below (Below.refl _ _).drew) (HH7.out.ro.below (Below.refl _ _).drew) (RowA.below HR7.out (Below.refl _ _).drew)).mono ?_); rintro e w8 ⟨A', c', B', d', he8, hs8, hnl8, hr8, hb8, na8, nb8⟩; unfold rixV at he8; subst he8; have hy8 := (HH7.out.yb.below ((Below.refl w7.heap.size w7).drew) HH7.out.yb.lt).below hb8 HH7.out.yb.lt; have c80 : w8.cell? ⟨w.heap.size + 1, 0, none⟩ = some (.slice A X.packs.length c) := hy8.cell 0; have c81 : w8.cell? ⟨w.heap.size + 1, 1, none⟩ = some (.slice B (valsI X).length d) := hy8.cell 1; have f80 := hy8.frozen 0; have f81 := hy8.frozen 1))
            all_goals
              have hbo := Half.both HH7.out ((Below.refl w7.heap.size w7).drew.trans hb8) hs8 hnl8 (by rw [← HVA.out]; exact hr8) na8 nb8 (d' := d') (n := (addP X.packs pk.name).length) (m := (List.foldl (addR pk.name) (valsI X) (clHs pk.heads)).length) rfl (by rw [HVA.out])
              have HBO := Lib.hid hbo
              clear hbo hs8 hnl8 hr8 hb8 na8 nb8 hy8 c80 c81 f80 f81 hn7 y0 y1 z0 z1
              go_wp2
              go_roundw
              case rel => exact ⟨k + 1, mb7, rb7, A', c', B', d', by go_num, by omega, by omega, by rw [HS.out]; exact HBO.out⟩
              case measure => simp [intOf]; omega
    · have hkc : ¬ (k : Int) < (l.length : Int) ∨ ((k : Int) < (l.length : Int) ∧ ¬ (k : Int) < 10) := by omega
      have HFW := Lib.hid ((pkIx_few (fun p hp => (HOK.out p hp).1) k (by omega)))
      generalize pkIx (l.take k) = X at *
      have hnp := HFW.out.np
      have hnq := HFW.out.nq
      have hwr := HFW.out.wr (by omega) (by omega)
      have hplr : (valsI X).length ≤ 1000000000 := by rw [valsI_len]; omega
      have hky : keyed (valsI X) = X.places := keyed_of HFW.out.ok.key
      have hff := fun W h => find_any w.heap.size mb rb X name W h hnz
      have hfr := fun W h => rfind_any X.packs (valsI X) A B c d name W h hplr
      rw [hky] at hfr
      unfold plV plC at hff hfr
      have his := fun W h1 h2 h3 => is_any w.heap.size mb rb X A B c d W h1 h2 h3 hwr.ok (by omega) (by omega) (fun p hp => Nat.le_trans (hwr.sq p hp).1 (by decide))
      have HEN := Lib.hid fun W h => ienc_any w.heap.size mb rb X W h hwr
      have htx := fun W h1 h2 => rtextI_any X A B c d W h1 h2 hwr
      unfold rixV at his htx hfr
      have HIS := Lib.hid his
      have HTX := Lib.hid htx
      clear his htx
      generalize (kvGet X.places name).getD noPl = pl at *
      generalize (kvGet X.places name).isSome = fd at *
      have HFF := Lib.hid hff
      have HFR := Lib.hid hfr
      clear hgo hff hfr hwr hky HEL HOK hnp hnq hplr
      rcases hkc with hkc | ⟨hkc, hkc2⟩
      all_goals
        go_wp2_with fail
        refine (HFF.out _ HB.out.xi.ix).mono ?_
        rintro e w1 ⟨rfl, hb1⟩
        have hba := (Below.refl w1.heap.size w1).alloc (Nat.le_refl _) (.cells #[.string pl.pack, .string pl.head.name, .int .i64 pl.head.method, .int .u32 pl.head.crc, .int .i64 pl.head.packed, .int .i64 pl.head.size, .int .i64 pl.head.at_] 34)
        have HB2 := Lib.hid ((HB.out.below hb1).below hba)
        have HP2 := Lib.hid (Blk.new w1 34 #[.string pl.pack, .string pl.head.name, .int .i64 pl.head.method, .int .u32 pl.head.crc, .int .i64 pl.head.packed, .int .i64 pl.head.size, .int .i64 pl.head.at_])
        clear hba hb1 HB
        go_upto_region 20 with fail
        generalize w1.alloc (.cells #[.string pl.pack, .string pl.head.name, .int .i64 pl.head.method, .int .u32 pl.head.crc, .int .i64 pl.head.packed, .int .i64 pl.head.size, .int .i64 pl.head.at_] 34) = w2 at *
        have y0 : w2.cell? ⟨w.heap.size + 1, 0, none⟩ = some (.slice A X.packs.length c) := HB2.out.yb.cell 0
        have y1 : w2.cell? ⟨w.heap.size + 1, 1, none⟩ = some (.slice B (valsI X).length d) := HB2.out.yb.cell 1
        go_wp2_with fail
        refine (HFR.out _ HB2.out.ro).mono ?_
        rintro e w3 ⟨rfl, hb3⟩
        have hba := (Below.refl w3.heap.size w3).alloc (Nat.le_refl _) (.cells #[.string pl.pack, .string pl.head.name, .int .i64 pl.head.method, .int .u32 pl.head.crc, .int .i64 pl.head.packed, .int .i64 pl.head.size, .int .i64 pl.head.at_] 50)
        have HB4 := Lib.hid ((HB2.out.below hb3).below hba)
        have HP4 := Lib.hid ((HP2.out.below hb3 HP2.out.lt).below hba (HP2.out.below hb3 HP2.out.lt).lt)
        have HQ4 := Lib.hid (Blk.new w3 50 #[.string pl.pack, .string pl.head.name, .int .i64 pl.head.method, .int .u32 pl.head.crc, .int .i64 pl.head.packed, .int .i64 pl.head.size, .int .i64 pl.head.at_])
        clear hba hb3 HB2 HP2 y0 y1
        go_upto_region 21 with fail
        generalize w3.alloc (.cells #[.string pl.pack, .string pl.head.name, .int .i64 pl.head.method, .int .u32 pl.head.crc, .int .i64 pl.head.packed, .int .i64 pl.head.size, .int .i64 pl.head.at_] 50) = w4 at *
        have HC := Lib.hid fun W (hW : Below w4.heap.size w4 W) => show W.cell? ⟨w.heap.size + 1, 0, none⟩ = some (.slice A X.packs.length c) ∧ W.cell? ⟨w.heap.size + 1, 1, none⟩ = some (.slice B (valsI X).length d) from ⟨(HB4.out.below hW).yb.cell 0, (HB4.out.below hW).yb.cell 1⟩
        have HD := Lib.hid fun W (hW : Below w4.heap.size w4 W) => (blk7 (HP4.out.below hW HP4.out.lt)).1
        have HE := Lib.hid fun W (hW : Below w4.heap.size w4 W) => (blk7 (HQ4.out.below hW HQ4.out.lt)).1
        have hx : ((bs (encI X)).toList == (bs (encI X)).toList) = true := by simp
        refine wp_region_below (by kernel_rfl) (by kernel_rfl) ?_
        repeat
          first
            | go_big_quiet_skip
            | (go_big_quiet_want
               go_big_quiet_op
               first
                 | go_big_quiet_on
                 | (refine ⟨_, fun _ _ => rfl, ?_⟩; go_big_quiet_on)
                 | (apply Exists.intro
                    refine ⟨fun W hW => ?_, ?_⟩
                    first
                      | (go_at_call 10; refine (awake_any W).mono ?_; rintro e w8 ⟨rfl, hb8⟩; exact ⟨rfl, hW.trans (hb8.mono hW.size)⟩)
                      | (go_at_call 14; refine (HIS.out W (HB4.out.below hW).xi.ix (HB4.out.below hW).st (HB4.out.below hW).ro).mono ?_; rintro e w8 ⟨rfl, hb8⟩; exact ⟨rfl, hW.trans (hb8.mono hW.size)⟩)
                      | (go_at_call 11; refine (HEN.out W (HB4.out.below hW).xi.ix).mono ?_; rintro e w8 ⟨rfl, hb8⟩; exact ⟨rfl, hW.trans (hb8.mono hW.size)⟩)
                      | (go_at_call 15; refine (HTX.out W (HB4.out.below hW).st (HB4.out.below hW).ro).mono ?_; rintro e w8 ⟨rfl, hb8⟩; exact ⟨rfl, hW.trans (hb8.mono hW.size)⟩)
                      | (obtain ⟨g0, g1⟩ := HC.out W hW; obtain ⟨d0, d1, d2, d3, d4, d5, d6⟩ := HD.out W hW; obtain ⟨e0, e1, e2, e3, e4, e5, e6⟩ := HE.out W hW; go_simp; done)
                      | (obtain ⟨g0, g1⟩ := HC.out W hW; obtain ⟨d0, d1, d2, d3, d4, d5, d6⟩ := HD.out W hW; obtain ⟨e0, e1, e2, e3, e4, e5, e6⟩ := HE.out W hW; go_simp; rfl)
                    go_big_quiet_on))
        refine wpQuiet_nil ?_
        intro w8 hb8
        have HB8 := Lib.hid (HB4.out.below hb8)
        clear hb8
        go_wp2
        go_ret
        exact ⟨rfl, HB8.out.xi.bel⟩
end Go.Proofs.Ytopmanmjggcfaaa
