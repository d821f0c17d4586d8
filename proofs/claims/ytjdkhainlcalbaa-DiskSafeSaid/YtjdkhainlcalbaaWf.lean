/- Plain laws on the log: frames are read back; what an add does to the disk. -/
import Derived.Test.YtjdkhainlcalbaaWe
namespace Go.Proofs.Ytjdkhainlcalbaa
open Go.RowKit Go.Maps

theorem getL_putL (x n : Nat) : getL (putL x n) = x % 256 ^ n := by
  induction n generalizing x with
  | zero => simp [putL, getL, Nat.mod_one]
  | succ n ih =>
    simp only [putL, getL, ih]
    have h1 : (UInt8.ofNat (x % 256)).toNat = x % 256 := by simp
    rw [h1, Nat.pow_succ, Nat.mul_comm (256 ^ n) 256, Nat.mod_mul]

theorem ex_mid (a b c : ByteArray) : (a ++ b ++ c).extract a.size (a.size + b.size) = b := by
  apply ByteArray.ext
  rw [ByteArray.data_extract, ByteArray.data_append, ByteArray.data_append]
  change ((a.data ++ b.data) ++ c.data).extract a.data.size (a.data.size + b.data.size) = b.data
  have e1 : a.data.extract a.data.size (a.data.size + b.data.size) = #[] := by simp
  have e2 : b.data.extract 0 b.data.size = b.data := by simp
  simp only [Array.extract_append, Array.size_append]
  rw [e1]
  have h1 : a.data.size - a.data.size = 0 := by omega
  have h2 : a.data.size + b.data.size - a.data.size = b.data.size := by omega
  rw [h1, h2, e2]
  simp
theorem ex_mid' (a b c : ByteArray) (i j : Nat) (hi : i = a.size) (hj : j = a.size + b.size) : (a ++ b ++ c).extract i j = b := by
  subst hi hj; exact ex_mid a b c

theorem recAt_frame (a r c : ByteArray) (hr : r.size ≤ 5000) : recAt (a ++ frame r ++ c) a.size = some r := by
  have hf := frame_size r
  have z1 := strL_size (putL r.size 4)
  have z3 := strL_size (putL (crcL 0 r.data.toList) 4)
  rw [putL_len] at z1 z3
  have hs : (a ++ frame r ++ c).size = a.size + (r.size + 8) + c.size := by simp [ByteArray.size_append, hf]
  have e1 : (a ++ frame r ++ c).extract a.size (a.size + 4) = strL (putL r.size 4) := by
    have : a ++ frame r ++ c = a ++ strL (putL r.size 4) ++ (r ++ strL (putL (crcL 0 r.data.toList) 4) ++ c) := by simp [frame, ByteArray.append_assoc]
    rw [this]; exact ex_mid' _ _ _ _ _ rfl (by rw [z1])
  have e2 : (a ++ frame r ++ c).extract (a.size + 4) (a.size + 4 + r.size) = r := by
    have : a ++ frame r ++ c = (a ++ strL (putL r.size 4)) ++ r ++ (strL (putL (crcL 0 r.data.toList) 4) ++ c) := by simp [frame, ByteArray.append_assoc]
    rw [this]; exact ex_mid' _ _ _ _ _ (by rw [ByteArray.size_append, z1]) (by rw [ByteArray.size_append, z1])
  have e3 : (a ++ frame r ++ c).extract (a.size + 4 + r.size) (a.size + 8 + r.size) = strL (putL (crcL 0 r.data.toList) 4) := by
    have : a ++ frame r ++ c = (a ++ strL (putL r.size 4) ++ r) ++ strL (putL (crcL 0 r.data.toList) 4) ++ c := by simp [frame, ByteArray.append_assoc]
    rw [this]; exact ex_mid' _ _ _ _ _ (by simp only [ByteArray.size_append, z1]) (by simp only [ByteArray.size_append, z1, z3]; omega)
  have g1 : getL (strL (putL r.size 4)).data.toList = r.size := by
    simp only [strL, getL_putL]; omega
  have g2 : getL (strL (putL (crcL 0 r.data.toList) 4)).data.toList = crcL 0 r.data.toList := by
    simp only [strL, getL_putL]; have := crcL_lt 0 r.data.toList; omega
  unfold recAt
  rw [if_neg (by omega)]
  simp only [e1, g1]
  rw [if_neg (by omega)]
  simp only [e2, e3, g2]
  simp

theorem parseFrom_frames (l : List ByteArray) : ∀ (a : ByteArray) (f : Nat), (∀ r ∈ l, r.size ≤ 5000) → l.length ≤ f →
    parseFrom (a ++ frames l) f a.size = (l, (a ++ frames l).size) := by
  have hfold : ∀ (l : List ByteArray) (a : ByteArray), l.foldl (fun a r => a ++ frame r) a = a ++ frames l := by
    intro l
    induction l with
    | nil => intro a; simp [frames]; apply ByteArray.ext; simp
    | cons x r ih =>
      intro a
      rw [List.foldl_cons, ih]
      have : frames (x :: r) = frame x ++ frames r := by
        unfold frames
        rw [List.foldl_cons, ih]
        congr 1
      rw [this, ByteArray.append_assoc]
  induction l with
  | nil =>
    intro a f _ _
    have e : a ++ frames [] = a := by apply ByteArray.ext; simp [frames]
    rw [e]
    cases f with
    | zero => rfl
    | succ f =>
      unfold parseFrom recAt
      rw [if_pos (by omega)]
  | cons x r ih =>
    intro a f hl hf
    obtain ⟨f, rfl⟩ : ∃ g, f = g + 1 := ⟨f - 1, by simp at hf; omega⟩
    have e : frames (x :: r) = frame x ++ frames r := by
      unfold frames
      rw [List.foldl_cons, hfold]
      congr 1
    have hx := hl x (by simp)
    unfold parseFrom
    rw [e, ← ByteArray.append_assoc, recAt_frame a x (frames r) hx]
    have h2 := ih (a ++ frame x) f (fun r hr => hl r (by simp [hr])) (by simp at hf; omega)
    have h3 : a.size + 8 + x.size = (a ++ frame x).size := by rw [ByteArray.size_append, frame_size]; omega
    simp only
    rw [h3, h2]

theorem parse_frames (l : List ByteArray) (hl : ∀ r ∈ l, r.size ≤ 5000) (hn : l.length ≤ 200) : parse (frames l) = (l, (frames l).size) := by
  have h := parseFrom_frames l ⟨#[]⟩ 200 hl hn
  have e : (⟨#[]⟩ ++ frames l : ByteArray) = frames l := by apply ByteArray.ext; simp
  rw [e] at h
  exact h

theorem alive_id {D : Dk} (ha : D.arm = -1) (hd : D.dead = false) : D.alive = D := by
  cases D; simp_all [Dk.alive, armNext]

/-- an add to a living disk that has the log -/
theorem lgAdd_live {D : Dk} (ha : D.arm = -1) (hd : D.dead = false) {i : Nat} (hg : kvGet D.folder logName = some i) (hi : i < D.files.length) (s : ByteArray) :
    lgAdd D s = if D.room - D.used < (s.size + 8 : Nat) then (D, 9) else ({ D with files := D.files.set i ⟨(D.flAt i).data ++ frame s, ((D.flAt i).data ++ frame s).size⟩ }, 0) := by
  have hal := alive_id ha hd
  unfold lgAdd Dk.append
  rw [hal, if_neg (by rw [hd]; simp), if_neg (by decide +kernel), frame_size]
  split
  · exact thenOk_no (show (9 : Int) ≠ 0 by decide)
  · rw [thenOk_ok rfl]
    dsimp only
    unfold Dk.put
    rw [hg]
    dsimp only
    unfold Dk.sync
    rw [alive_id (D := { D with files := D.files.set i { data := (D.flAt i).data ++ frame s, safe := (D.flAt i).safe } }) ha hd, if_neg (by rw [hd]; simp)]
    dsimp only
    rw [hg]
    have h1 : ({ D with files := D.files.set i { data := (D.flAt i).data ++ frame s, safe := (D.flAt i).safe } } : Dk).flAt i = ⟨(D.flAt i).data ++ frame s, (D.flAt i).safe⟩ := by
      simp [Dk.flAt, List.getD, List.getElem?_set_self hi]
    simp only [h1, List.set_set]

/-- the disks of the law WalFull -/
def mkS (room : Int) (l : ByteArray) : Dk := ⟨room, [⟨l, l.size⟩], [(logName, 0)], [(logName, 0)], [], -1, false⟩
def otherName : ByteArray := ⟨#[111, 116, 104, 101, 114]⟩
def otherData : ByteArray := ⟨#[115, 111, 109, 101, 116, 104, 105, 110, 103]⟩
def mkL (l : ByteArray) : Dk := ⟨1048576, [⟨otherData, 9⟩, ⟨l, l.size⟩], [(logName, 1), (otherName, 0)], [(logName, 1), (otherName, 0)], [], -1, false⟩
theorem mkS_add (room : Int) (l s : ByteArray) : lgAdd (mkS room l) s = if room - l.size < (s.size + 8 : Nat) then (mkS room l, 9) else (mkS room (l ++ frame s), 0) := by
  have hu : (mkS room l).used = l.size := by simp [Dk.used, kvSum, mkS, Dk.flAt]
  rw [lgAdd_live rfl rfl (show kvGet (mkS room l).folder logName = some 0 from (by decide +kernel : kvGet [(logName, 0)] logName = some 0)) (Nat.lt_succ_self 0)]
  rw [hu]
  rfl
theorem mkL_add (l s : ByteArray) : lgAdd (mkL l) s = if (1048576 : Int) - (9 + l.size : Nat) < (s.size + 8 : Nat) then (mkL l, 9) else (mkL (l ++ frame s), 0) := by
  have hu : (mkL l).used = 9 + l.size := by
    simp [Dk.used, kvSum, mkL, Dk.flAt]; rw [Nat.add_comm]; congr 1
  rw [lgAdd_live rfl rfl (show kvGet (mkL l).folder logName = some 1 from (by decide +kernel : kvGet [(logName, 1), (otherName, 0)] logName = some 1)) (Nat.lt_succ_self 1)]
  rw [hu]
  rfl
theorem mkS_new (room : Int) (h : 0 ≤ room) : lgReplace (dkNew room) [] = (mkS room ⟨#[]⟩, 0) := by
  have h1 : (dkNew room).remove logTemp = (dkNew room, 7) := rfl
  have h2 : (dkNew room).append logTemp (frames []) = (⟨room, [⟨⟨#[]⟩, 0⟩], [(logTemp, 0)], [], [⟨1, logTemp, logTemp, 0⟩], -1, false⟩, 0) := by
    unfold Dk.append
    rw [if_neg (show ¬ (dkNew room).alive.dead = true from Bool.false_ne_true), if_neg (by decide +kernel), if_neg (by show ¬ room - ((0 : Nat) : Int) < ((0 : Nat) : Int); omega)]
    rfl
  unfold lgReplace
  rw [h1, if_pos (Or.inr rfl)]
  dsimp only
  rw [h2, thenOk_ok rfl]
  rfl
theorem mkL_start : lgReplace (((dkNew 1048576).append otherName otherData).1.sync otherName).1 [] = (mkL ⟨#[]⟩, 0) := by kernel_rfl
theorem frames_rep (k : Nat) (z : ByteArray) : (frames (List.replicate k z)).size = k * (z.size + 8) := by
  induction k with
  | zero => simp [frames]; rfl
  | succ k ih =>
    have : frames (List.replicate (k + 1) z) = frames (List.replicate k z) ++ frame z := by
      rw [List.replicate_succ']; unfold frames; rw [List.foldl_append]; rfl
    rw [this, ByteArray.size_append, ih, frame_size, Nat.succ_mul]
theorem frames_succ (k : Nat) (z : ByteArray) : frames (List.replicate (k + 1) z) = frames (List.replicate k z) ++ frame z := by
  rw [List.replicate_succ']; unfold frames; rw [List.foldl_append]; rfl
end Go.Proofs.Ytjdkhainlcalbaa
