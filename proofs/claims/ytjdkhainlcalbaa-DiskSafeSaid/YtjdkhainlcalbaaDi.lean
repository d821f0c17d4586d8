/- The disk's Arm; the laws' own disk; law 14's awake. -/
import Derived.Test.YtjdkhainlcalbaaDh
namespace Go.Proofs.Ytjdkhainlcalbaa
open Go.RowKit Go.Maps

def Dk.armed (D : Dk) (n : Int) : Dk := { D with arm := max n (-1) }

set_option maxHeartbeats 400000 in
set_option maxRecDepth 100000 in
theorem arm_any (b : Nat) (D : Dk) (L : Lay) (n : Int) (w : World) (h : DiskAt w b D L) (hn : n ≤ 9223372036854775807) :
    Calls Try.prog 34 #[.pointer (some ⟨b, 0, none⟩), .int .i64 n] w fun e w' => e = .returned (.tuple #[]) ∧ DkPost b L (D.armed n) w w' := by
  have f4 : w.frozen? ⟨b, 4, none⟩ = false := h.blk.free 4
  have c4 : w.cell? ⟨b, 4, none⟩ = some (.int .i64 D.arm) := h.blk.cell 4
  have hp : ∀ m : Int, -1 ≤ m ∧ m ≤ 9223372036854775807 → DkPost b L { D with arm := m } w (w.setCell ⟨b, 4, none⟩ (.int .i64 m)) := fun m hm =>
    dkSame (h.cells m D.dead hm (h.blk.set 4 (.int .i64 m)) (Touch.setc _ _ _ _)) (Touch.setc _ _ _ _)
  have HP := Lib.hid hp
  clear h hp
  go_enter Try.func34, Try.ntmps34
  go_wp2
  go_end0
  exact ⟨rfl, HP.out (max n (-1)) (by omega)⟩

/-- the disk lies above what was there at the start -/
structure DkUp (w0 w : World) (b : Nat) (D : Dk) (L : Lay) : Prop where
  at' : DiskAt w b D L
  bel : Below w0.heap.size w0 w
  new : ∀ k ∈ foot b L, w0.heap.size ≤ k
theorem DkUp.post {w0 w w' : World} {b : Nat} {D D' : Dk} {L : Lay} (h : DkUp w0 w b D L) (hp : DkPost b L D' w w') : ∃ L', DkUp w0 w' b D' L' := by
  obtain ⟨L', h1, h2, h3⟩ := hp
  have hz := h.bel.size
  exact ⟨L', h1, h.bel.trans (h2.below hz fun k hk hm => by have := h.new k hm; omega), fun k hk => (h3 k hk).elim (h.new k) (fun e => by omega)⟩
theorem DkUp.up {w0 w w' : World} {b : Nat} {D : Dk} {L : Lay} (h : DkUp w0 w b D L) (hb : Below w.heap.size w w') : DkUp w0 w' b D L :=
  ⟨h.at'.below hb, h.bel.trans (hb.mono h.bel.size), h.new⟩

theorem newUp (room : Int) (w0 w : World) (h0 : Below w0.heap.size w0 w) (h : 0 ≤ room ∧ room ≤ 1073741824) :
    Calls Try.prog 25 #[.int .i64 room] w fun e w' => ∃ b L, e = .returned (.tuple #[.pointer (some ⟨b, 0, none⟩), .int .i64 0]) ∧ DkUp w0 w' b (dkNew room) L :=
  (new_any room w h).mono fun e w' ⟨b, L, he, hd, hb, hn⟩ => ⟨b, L, he, hd, h0.trans (hb.mono h0.size), fun k hk => by have := hn k hk; have := h0.size; omega⟩

section
variable {w0 w : World} {b : Nat} {D : Dk} {L : Lay}
theorem appendUp (name data : ByteArray) (h : DkUp w0 w b D L) (hs : name.size ≤ 9223372036854775807) (hds : data.size ≤ 9223372036854775807) (hsm : D.small 400000) :
    Calls Try.prog 26 #[.pointer (some ⟨b, 0, none⟩), .string name, .string data] w fun e w' => e = .returned (.int .i64 (D.append name data).2) ∧ ∃ L', DkUp w0 w' b (D.append name data).1 L' :=
  (append_any b D L name data w h.at' hs hds (Nat.le_trans hsm.1 (by decide)) (Nat.le_trans hsm.2 (by decide))).mono fun e w' ⟨h1, h2⟩ => ⟨h1, h.post h2⟩
theorem syncUp (name : ByteArray) (h : DkUp w0 w b D L) (hs : name.size ≤ 9223372036854775807) :
    Calls Try.prog 29 #[.pointer (some ⟨b, 0, none⟩), .string name] w fun e w' => e = .returned (.int .i64 (D.sync name).2) ∧ ∃ L', DkUp w0 w' b (D.sync name).1 L' :=
  (sync_any b D L name w h.at' hs).mono fun _e _w' ⟨h1, h2⟩ => ⟨h1, h.post h2⟩
theorem settleUp (h : DkUp w0 w b D L) :
    Calls Try.prog 30 #[.pointer (some ⟨b, 0, none⟩)] w fun e w' => e = .returned (.int .i64 D.settle.2) ∧ ∃ L', DkUp w0 w' b D.settle.1 L' :=
  (settle_any b D L w h.at').mono fun _e _w' ⟨h1, h2⟩ => ⟨h1, h.post h2⟩
theorem removeUp (name : ByteArray) (h : DkUp w0 w b D L) (hs : name.size ≤ 9223372036854775807) (hsm : D.small 400000) :
    Calls Try.prog 28 #[.pointer (some ⟨b, 0, none⟩), .string name] w fun e w' => e = .returned (.int .i64 (D.remove name).2) ∧ ∃ L', DkUp w0 w' b (D.remove name).1 L' :=
  (remove_any b D L name w h.at' hs (Nat.le_trans hsm.2 (by decide))).mono fun e w' ⟨h1, h2⟩ => ⟨h1, h.post h2⟩
theorem renameUp (name dst : ByteArray) (h : DkUp w0 w b D L) (hs : name.size ≤ 9223372036854775807) (hds : dst.size ≤ 9223372036854775807) (hsm : D.small 400000) :
    Calls Try.prog 31 #[.pointer (some ⟨b, 0, none⟩), .string name, .string dst] w fun e w' => e = .returned (.int .i64 (D.rename name dst).2) ∧ ∃ L', DkUp w0 w' b (D.rename name dst).1 L' :=
  (rename_any b D L name dst w h.at' hs hds (Nat.le_trans hsm.2 (by decide)) (Nat.le_trans hsm.1 (by decide))).mono fun e w' ⟨h1, h2⟩ => ⟨h1, h.post h2⟩
theorem armUp (n : Int) (h : DkUp w0 w b D L) (hn : n ≤ 9223372036854775807) :
    Calls Try.prog 34 #[.pointer (some ⟨b, 0, none⟩), .int .i64 n] w fun e w' => e = .returned (.tuple #[]) ∧ ∃ L', DkUp w0 w' b (D.armed n) L' :=
  (arm_any b D L n w h.at' hn).mono fun _e _w' ⟨h1, h2⟩ => ⟨h1, h.post h2⟩
theorem readUp (name : ByteArray) (h : DkUp w0 w b D L) (hs : name.size ≤ 9223372036854775807) :
    Calls Try.prog 33 #[.pointer (some ⟨b, 0, none⟩), .string name] w fun e w' => e = .returned (.tuple #[.string (D.read name).1, .int .i64 (D.read name).2]) ∧ w = w' :=
  read_any b D L name w h.at' hs
theorem usedUp (h : DkUp w0 w b D L) (hsm : D.small 400000) :
    Calls Try.prog 27 #[.pointer (some ⟨b, 0, none⟩)] w fun e w' => e = .returned (.int .i64 D.used) ∧ DkUp w0 w' b D L :=
  (used_any b D L w h.at' (Nat.le_trans hsm.1 (by decide))).mono fun e w' ⟨h1, h2⟩ => ⟨h1, h.up h2⟩
/-- what keeps may be: a row of so many numbers, each a word -/
def KeepsOk (ks : List Int) : Prop := ks.length ≤ 9223372036854775807 ∧ ∀ x ∈ ks, -9223372036854775808 ≤ x ∧ x ≤ 9223372036854775807
theorem crashUp (ks : List Int) (v : Value) (h : DkUp w0 w b D L) (hv : RowInt w v ks) (hk : KeepsOk ks) (hsm : D.small 400000) :
    Calls Try.prog 32 #[.pointer (some ⟨b, 0, none⟩), v] w fun e w' => e = .returned (.tuple #[]) ∧ ∃ L', DkUp w0 w' b (D.crash ks) L' :=
  (crash_any b D L ks v w h.at' hv hk.1 hk.2 hsm.2 hsm.1).mono fun _e _w' ⟨h1, h2⟩ => ⟨h1, h.post h2⟩
end
/-- a row of one number, just laid -/
theorem row_one (w : World) (x : Int) (t : TypeId) : RowInt (w.alloc (.cells #[.int .i64 x] t)) (.slice (some ⟨w.heap.size, 0, none⟩) 1 1) [x] :=
  Or.inr ⟨w.heap.size, 0, 1, rfl, fun j hj => by
    obtain rfl : j = 0 := by simp at hj; omega
    exact (BlockIs.new w #[.int .i64 x] t).cell 0⟩

def nA : ByteArray := ⟨#[97]⟩
def nB : ByteArray := ⟨#[98]⟩
def aw1 : Dk := ((dkNew 9).append nA ⟨#[120, 121]⟩).1
def aw2 : Dk := (aw1.append nA ⟨#[49, 50, 51, 52, 53, 54, 55, 56]⟩).1
def aw3 : Dk := (aw2.sync nA).1
def aw4 : Dk := aw3.settle.1
def aw5 : Dk := (aw4.append nA ⟨#[122]⟩).1
def aw6 : Dk := aw5.crash [1]
theorem aw_1 : ((dkNew 9).append nA ⟨#[120, 121]⟩).2 = 0 := by decide +kernel
theorem aw_2 : (aw1.append nA ⟨#[49, 50, 51, 52, 53, 54, 55, 56]⟩).2 = 9 := by decide +kernel
theorem aw_3 : (aw2.sync nA).2 = 0 := by decide +kernel
theorem aw_4 : aw3.settle.2 = 0 := by decide +kernel
theorem aw_5 : (aw4.append nA ⟨#[122]⟩).2 = 0 := by decide +kernel
theorem aw_6 : aw6.read nA = (⟨#[120, 121, 122]⟩, 0) := by decide +kernel
theorem awSmall : aw1.small 400000 ∧ aw2.small 400000 ∧ aw4.small 400000 ∧ aw5.small 400000 := by
  refine ⟨⟨?_, ?_⟩, ⟨?_, ?_⟩, ⟨?_, ?_⟩, ⟨?_, ?_⟩⟩ <;> decide +kernel

set_option maxHeartbeats 1600000 in
set_option maxRecDepth 100000 in
theorem awake14_any (w : World) : Calls Try.prog 24 #[] w fun e w' => e = .returned (.bool true) ∧ Below w.heap.size w w' := by
  have HN := Lib.hid (newUp 9 w w (Below.refl _ _) (by decide))
  go_enter Try.func24, Try.ntmps24
  go_wp2_with fail
  refine HN.out.mono ?_
  rintro e w1 ⟨b, L, rfl, hu⟩
  have HU := Lib.hid hu
  clear hu HN
  have H1 := appendUp nA ⟨#[120, 121]⟩ HU.out (by decide) (by decide) ⟨by decide, by decide⟩
  rw [aw_1] at H1
  have HC := Lib.hid H1
  clear H1
  go_wp2_with fail
  refine HC.out.mono ?_
  rintro e w2 ⟨rfl, L2, hu2⟩
  clear HC HU
  have HU : Hid (DkUp w w2 b aw1 L2) := hu2
  clear hu2
  have H1 := appendUp nA ⟨#[49, 50, 51, 52, 53, 54, 55, 56]⟩ HU.out (by decide) (by decide) awSmall.1
  rw [aw_2] at H1
  have HC := Lib.hid H1
  clear H1
  go_wp2_with fail
  refine HC.out.mono ?_
  rintro e w3 ⟨rfl, L3, hu3⟩
  clear HC HU
  have HU : Hid (DkUp w w3 b aw2 L3) := hu3
  clear hu3
  have H1 := syncUp nA HU.out (by decide)
  rw [aw_3] at H1
  have HC := Lib.hid H1
  clear H1
  go_wp2_with fail
  refine HC.out.mono ?_
  rintro e w4 ⟨rfl, L4, hu4⟩
  clear HC HU
  have HU : Hid (DkUp w w4 b aw3 L4) := hu4
  clear hu4
  have H1 := settleUp HU.out
  rw [aw_4] at H1
  have HC := Lib.hid H1
  clear H1
  go_wp2_with fail
  refine HC.out.mono ?_
  rintro e w5 ⟨rfl, L5, hu5⟩
  clear HC HU
  have HU : Hid (DkUp w w5 b aw4 L5) := hu5
  clear hu5
  have H1 := appendUp nA ⟨#[122]⟩ HU.out (by decide) (by decide) awSmall.2.2.1
  have HC := Lib.hid H1
  clear H1
  go_wp2_with fail
  refine HC.out.mono ?_
  rintro e w6 ⟨rfl, L6, hu6⟩
  clear HC HU
  have HU : Hid (DkUp w w6 b aw5 L6) := hu6
  clear hu6
  go_wp2_with fail
  refine (crashUp [1] _ (HU.out.up ((Below.refl _ w6).alloc (Nat.le_refl _) _)) (row_one w6 1 _) ⟨by decide, by decide⟩ awSmall.2.2.2).mono ?_
  rintro e w7 ⟨rfl, L7, hu7⟩
  clear HU
  have HU : Hid (DkUp w w7 b aw6 L7) := hu7
  clear hu7
  have H1 := readUp nA HU.out (by decide)
  rw [aw_6] at H1
  have HC := Lib.hid H1
  clear H1
  go_wp2_with fail
  refine HC.out.mono ?_
  rintro e w8 ⟨rfl, rfl⟩
  go_wp2
  go_ret
  exact ⟨rfl, HU.out.bel⟩
end Go.Proofs.Ytjdkhainlcalbaa
