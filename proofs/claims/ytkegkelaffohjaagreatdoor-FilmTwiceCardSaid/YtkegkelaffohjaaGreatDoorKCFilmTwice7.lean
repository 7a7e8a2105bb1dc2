/- ZipLaw, FilmLaw, RdBytes, LzKey: put together. -/
import Derived.Test.YtkegkelaffohjaaGreatDoorKCFilmTwice2
import Derived.Test.YtkegkelaffohjaaGreatDoorQCFilmTwiceBitT
import Derived.Test.YtkegkelaffohjaaGreatDoorKCFilmTwice5
import Derived.Test.YtkegkelaffohjaaGreatDoorQCFilmTwiceHufNext
/- Packed texts with a head and a sum: plainly. What is packed is unpacked, whatever stands behind it. -/
namespace Go.Proofs.YtkegkelaffohjaaGreatDoor
namespace Adl
def step (q : Nat × Nat) (b : UInt8) : Nat × Nat := ((q.1 + b.toNat) % 65521, (q.2 + (q.1 + b.toNat) % 65521) % 65521)
def run (s : List UInt8) : Nat × Nat := s.foldl step (1, 0)
def adler (s : List UInt8) : Nat := (run s).2 * 65536 + (run s).1
theorem run_lt (s : List UInt8) : (run s).1 < 65521 ∧ (run s).2 < 65521 := by
 have key : ∀ (s : List UInt8) (q : Nat × Nat), q.1 < 65521 ∧ q.2 < 65521 → (s.foldl step q).1 < 65521 ∧ (s.foldl step q).2 < 65521 := by
  intro s
  induction s with
  | nil => exact fun _ h => h
  | cons b s ih =>
   intro q _
   rw [List.foldl_cons]
   exact ih _ ⟨Nat.mod_lt _ (by omega), Nat.mod_lt _ (by omega)⟩
 exact key s _ (by decide)
theorem adler_lt (s : List UInt8) : adler s < 4294967296 := by
 have := run_lt s
 unfold adler
 omega
theorem run_snoc (s : List UInt8) (b : UInt8) : run (s ++ [b]) = step (run s) b := by simp [run]
end Adl
namespace Inf
open Mat Huf
theorem inflate_one_more (B : List Bool) (most : Nat) (out rest : List UInt8) (h : ∀ pad, rblock most (B ++ pad) [] = .ok (true, pad, out)) : inflate (Bit.pack B ++ rest) most = .ok (out, (Bit.pack B).length) := by
 obtain ⟨pad, h1, h2, h3⟩ := bits_of_pack B
 have hl := Bit.bits_length rest
 unfold inflate
 rw [bits_append, h1, List.append_assoc, rblocks, h]
 simp only
 rw [if_pos trivial]
 simp only
 rw [List.length_append, List.length_append, hl, show (pad.length + 8 * rest.length) / 8 = rest.length by omega]
 congr 1
 congr 1
 omega
theorem inflate_stored_more (s : List UInt8) (most : Nat) (rest : List UInt8) (h : s.length ≤ most) : inflate (stored s ++ rest) most = .ok (s, (stored s).length) := by
 unfold stored
 rw [storedF_is _ _ _ rfl, List.nil_append]
 obtain ⟨pad, h1, h2, h3⟩ := bits_of_pack (storedG (s.length + 1) s)
 have hl := storedG_long (s.length + 1) s (by omega)
 have hp := Bit.pack_length (storedG (s.length + 1) s)
 have hm := storedG_mod (s.length + 1) s
 have hr := Bit.bits_length rest
 unfold inflate
 rw [bits_append, h1, List.append_assoc, rblocks_stored most (pad ++ Bit.bits rest) (by rw [List.length_append]; omega) _ _ s [] (by omega) (by rw [List.length_append]; omega) (by simpa using h)]
 simp only
 rw [List.length_append, List.length_append, hr, show (pad.length + 8 * rest.length) / 8 = rest.length by omega]
 congr 1
 congr 1
 omega
theorem inflate_deflate_more (s : List UInt8) (most : Nat) (rest : List UInt8) (h : s.length ≤ most) : inflate (deflate s ++ rest) most = .ok (s, (deflate s).length) := by
 have ok : AllOK (tokens s) 0 := toks_ok s _ _ _
 have hx := expand_tokens s
 have h1 : inflate (Bit.pack (dynBits (tokens s)) ++ rest) most = .ok (s, (Bit.pack (dynBits (tokens s))).length) := inflate_one_more (dynBits (tokens s)) most s rest fun pad => by
  have := rblock_dyn (tokens s) most pad ok (by rw [hx]; exact h)
  rwa [hx] at this
 have h2 : inflate (Bit.pack (fixBits (tokens s)) ++ rest) most = .ok (s, (Bit.pack (fixBits (tokens s))).length) := inflate_one_more (fixBits (tokens s)) most s rest fun pad => by
  have := rblock_fix (tokens s) most pad ok (by rw [hx]; exact h)
  rwa [hx] at this
 have h3 := inflate_stored_more s most rest h
 have hs : ∀ a b : List UInt8, inflate (a ++ rest) most = .ok (s, a.length) → inflate (b ++ rest) most = .ok (s, b.length) → inflate (shorter a b ++ rest) most = .ok (s, (shorter a b).length) := by
  intro a b ha hb
  unfold shorter
  by_cases e : a.length < b.length
  ·rw [if_pos e]; exact ha
  ·rw [if_neg e]; exact hb
 unfold deflate
 exact hs _ _ h1 (hs _ _ h2 h3)
def zip (s : List UInt8) : List UInt8 := 120 :: 156 :: (deflate s ++ Crc.num (Adl.adler s))
def headBad (a b : Nat) : Prop := a % 16 ≠ 8 ∨ 7 < a / 16 ∨ (a * 256 + b) % 31 ≠ 0 ∨ b / 32 % 2 ≠ 0
instance (a b : Nat) : Decidable (headBad a b) := by unfold headBad; infer_instance
def unzip (s : List UInt8) (most : Nat) : Except Nat (List UInt8) :=
 if s.length < 2 then .error 0
 else if headBad (s.getD 0 0).toNat (s.getD 1 0).toNat then .error 0
 else match inflate (s.drop 2) most with
  | .error k => .error k
  | .ok (t, used) => if (s.drop (2 + used)).length ≠ 4 then .error 0 else if Crc.val (s.drop (2 + used)) ≠ Adl.adler t then .error 3 else .ok t
theorem unzip_zip (s : List UInt8) (most : Nat) (h : s.length ≤ most) : unzip (zip s) most = .ok s := by
 have hh : ∀ x : List UInt8, ¬ headBad ((120 :: 156 :: x).getD 0 0).toNat ((120 :: 156 :: x).getD 1 0).toNat := fun x => show ¬ headBad (120 : UInt8).toNat (156 : UInt8).toNat by decide
 unfold unzip zip
 rw [if_neg (by simp), if_neg (hh _)]
 simp only [List.drop_succ_cons, List.drop_zero]
 rw [inflate_deflate_more s most _ h]
 simp only
 rw [show 2 + (deflate s).length = (deflate s).length + 1 + 1 by omega, List.drop_succ_cons, List.drop_succ_cons, List.drop_left' rfl, if_neg (by simp [Pak.num_length]), if_neg (by rw [Crc.val_num _ (Adl.adler_lt s)]; simp)]
theorem zip_length (s : List UInt8) (h : s.length ≤ 65535) : (zip s).length ≤ s.length + 11 := by
 have := Pak.deflate_short s h
 unfold zip
 rw [List.length_cons, List.length_cons, List.length_append, Pak.num_length]
 omega
end Inf
end Go.Proofs.YtkegkelaffohjaaGreatDoor
/- Films: plainly. What is written is read. -/
namespace Go.Proofs.YtkegkelaffohjaaGreatDoor
namespace Film
open Crc Chk
def kIHDR : List UInt8 := [73, 72, 68, 82]
def kacTL : List UInt8 := [97, 99, 84, 76]
def kfcTL : List UInt8 := [102, 99, 84, 76]
def kIDAT : List UInt8 := [73, 68, 65, 84]
def kfdAT : List UInt8 := [102, 100, 65, 84]
def kIEND : List UInt8 := [73, 69, 78, 68]
def big2 (n : Nat) : List UInt8 := [UInt8.ofNat (n / 256), UInt8.ofNat n]
def control (n W H d : Nat) : List UInt8 := num n ++ (num W ++ (num H ++ (num 0 ++ (num 0 ++ (big2 d ++ (big2 100 ++ [0, 0]))))))
abbrev F := Nat × List Px
def rowsOf (W H : Nat) (ps : List Px) : List UInt8 := Fil.frows (4 * W) 4 H (Pak.pxBytes ps) []
def datC (W H i : Nat) (f : F) : C := if i = 0 then (kIDAT, Inf.zip (rowsOf W H f.2)) else (kfdAT, num (2 * i) ++ Inf.zip (rowsOf W H f.2))
def part (W H i : Nat) (f : F) : List C := [(kfcTL, control (2 * i - 1) W H f.1), datC W H i f]
def parts (W H : Nat) : Nat → List F → List C
 | _, [] => []
 | i, f :: fs => part W H i f ++ parts W H (i + 1) fs
def headC (W H many loops : Nat) : List C := [(kIHDR, num W ++ (num H ++ [8, 6, 0, 0, 0])), (kacTL, num many ++ num loops)]
def filmC (W H loops : Nat) (fs : List F) : List C := headC W H fs.length loops ++ (parts W H 0 fs ++ [(kIEND, [])])
def film (W H loops : Nat) (fs : List F) : List UInt8 := file (filmC W H loops fs)
def takeC (k : List UInt8) (size : Option Nat) : List C → Option (List UInt8 × List C)
 | [] => none
 | c :: l => if c.1 ≠ k ∨ (∃ n, size = some n ∧ c.2.length ≠ n) then none else some (c.2, l)
def rhead (l : List C) : Option ((Nat × Nat × Nat × Nat) × List C) :=
 match takeC kIHDR (some 13) l with
 | none => none
 | some (h, l1) =>
  match takeC kacTL (some 8) l1 with
  | none => none
  | some (a, l2) =>
   if val (h.take 4) < 1 ∨ 256 < val (h.take 4) ∨ val ((h.drop 4).take 4) < 1 ∨ 256 < val ((h.drop 4).take 4) ∨ h.drop 8 ≠ [8, 6, 0, 0, 0] then none
   else if val (a.take 4) < 1 ∨ 16 < val (a.take 4) ∨ 65535 < val (a.drop 4) ∨ 60000 < val (a.take 4) * val (h.take 4) * val ((h.drop 4).take 4) then none
   else some ((val (h.take 4), val ((h.drop 4).take 4), val (a.take 4), val (a.drop 4)), l2)
def rframe (W H i : Nat) (l : List C) : Option ((Nat × List UInt8) × List C) :=
 match takeC kfcTL (some 26) l with
 | none => none
 | some (c, l1) =>
  if c ≠ control (2 * i - 1) W H (val ((c.drop 20).take 2)) then none
  else if i = 0 then
   match takeC kIDAT none l1 with
   | none => none
   | some (d, l2) => some ((val ((c.drop 20).take 2), d), l2)
  else
   match takeC kfdAT none l1 with
   | none => none
   | some (d, l2) => if d.length < 4 ∨ d.take 4 ≠ num (2 * i) then none else some ((val ((c.drop 20).take 2), d.drop 4), l2)
def rframes (W H : Nat) : Nat → Nat → List C → Option (List (Nat × List UInt8) × List C)
 | 0, _, l => some ([], l)
 | n + 1, i, l =>
  match rframe W H i l with
  | none => none
  | some (f, l1) =>
   match rframes W H n (i + 1) l1 with
   | none => none
   | some (fs, l2) => some (f :: fs, l2)
def unpackF (W H : Nat) (z : List UInt8) : Except Nat (List Px) :=
 match Inf.unzip z (H * (4 * W + 1)) with
 | .error k => .error k
 | .ok t =>
  if t.length < H * (4 * W + 1) then .error 0
  else match Fil.fback (4 * W) 4 H t [] with
   | none => .error 0
   | some u => .ok (Pak.pixels u)
def unpackAll (W H : Nat) : List (Nat × List UInt8) → Except Nat (List F)
 | [] => .ok []
 | (d, z) :: l =>
  match unpackF W H z with
  | .error k => .error k
  | .ok ps =>
   match unpackAll W H l with
   | .error k => .error k
   | .ok fs => .ok ((d, ps) :: fs)
def readC (l : List C) : Except Nat (Nat × Nat × Nat × List F) :=
 match rhead l with
 | none => .error 0
 | some ((W, H, many, loops), l1) =>
  match rframes W H many 0 l1 with
  | none => .error 0
  | some (ds, l2) =>
   if l2 ≠ [(kIEND, [])] then .error 0
   else match unpackAll W H ds with
    | .error k => .error k
    | .ok fs => .ok (W, H, loops, fs)
def read (s : List UInt8) : Except (Nat × Int) (Nat × Nat × Nat × List F) :=
 match chunks s with
 | .error e => .error e
 | .ok l =>
  match readC l with
  | .error k => .error (k, -1)
  | .ok r => .ok r
theorem takeC_yes (k d : List UInt8) (size : Option Nat) (l : List C) (h : ∀ n, size = some n → d.length = n) : takeC k size ((k, d) :: l) = some (d, l) := by
 rw [takeC, if_neg]
 rintro (e | ⟨n, e1, e2⟩)
 ·exact e rfl
 ·exact e2 (h n e1)
theorem val_big2 (n : Nat) (h : n ≤ 65535) : val (big2 n) = n := by
 simp [val, big2]
 omega
theorem control_delay (n W H d : Nat) : ((control n W H d).drop 20).take 2 = big2 d := rfl
structure Ok (W H loops : Nat) (fs : List F) : Prop where
 w : 1 ≤ W ∧ W ≤ 256
 h : 1 ≤ H ∧ H ≤ 256
 many : 1 ≤ fs.length ∧ fs.length ≤ 16
 loops : loops ≤ 65535
 all : fs.length * W * H ≤ 60000
 each : ∀ f ∈ fs, f.1 ≤ 65535 ∧ f.2.length = H * W
def packed (W H : Nat) (f : F) : Nat × List UInt8 := (f.1, Inf.zip (rowsOf W H f.2))
theorem rframe_part (W H i : Nat) (f : F) (l : List C) (hd : f.1 ≤ 65535) (_hi : i ≤ 16) : rframe W H i (part W H i f ++ l) = some (packed W H f, l) := by
 unfold rframe part
 rw [List.cons_append, takeC_yes kfcTL _ _ _ (fun n e => by injection e)]
 simp only
 rw [control_delay, val_big2 _ hd, if_neg (by simp)]
 unfold datC packed
 by_cases h0 : i = 0
 ·rw [if_pos h0, if_pos h0]
  show (match takeC kIDAT none ((kIDAT, Inf.zip (rowsOf W H f.2)) :: l) with | none => none | some (d, l2) => some ((f.1, d), l2)) = _
  rw [takeC_yes kIDAT _ _ _ (fun n e => by cases e)]
 ·rw [if_neg h0, if_neg h0]
  show (match takeC kfdAT none ((kfdAT, num (2 * i) ++ Inf.zip (rowsOf W H f.2)) :: l) with | none => none | some (d, l2) => if d.length < 4 ∨ d.take 4 ≠ num (2 * i) then none else some ((f.1, d.drop 4), l2)) = _
  rw [takeC_yes kfdAT _ _ _ (fun n e => by cases e)]
  simp only
  rw [List.take_left' (Pak.num_length _), if_neg (by rw [List.length_append, Pak.num_length]; simp), List.drop_left' (Pak.num_length _)]
theorem rframes_parts (W H : Nat) : ∀ (fs : List F) (i : Nat) (l : List C), (∀ f ∈ fs, f.1 ≤ 65535) → i + fs.length ≤ 17 → rframes W H fs.length i (parts W H i fs ++ l) = some (fs.map (packed W H), l)
 | [], _, _, _, _ => rfl
 | f :: fs, i, l, h, hi => by
  rw [List.length_cons] at hi
  rw [parts, List.append_assoc, List.length_cons, rframes, rframe_part W H i f _ (h f (by simp)) (by omega)]
  simp only
  rw [rframes_parts W H fs (i + 1) l (fun g hg => h g (List.mem_cons_of_mem _ hg)) (by omega)]
  rfl
theorem rowsOf_length (W H : Nat) (ps : List Px) (h : ps.length = H * W) : (rowsOf W H ps).length = H * (4 * W + 1) := by
 unfold rowsOf
 exact Fil.frows_length _ _ _ _ _ (by rw [Pak.pxBytes_length, h, Nat.mul_left_comm])
theorem unpackF_packed (W H : Nat) (ps : List Px) (h : ps.length = H * W) : unpackF W H (Inf.zip (rowsOf W H ps)) = .ok ps := by
 have hl := rowsOf_length W H ps h
 unfold unpackF
 rw [Inf.unzip_zip _ _ (by omega)]
 simp only
 rw [if_neg (by omega)]
 unfold rowsOf
 rw [Fil.fback_frows _ _ (by omega) _ _ _ (by rw [Pak.pxBytes_length, h, Nat.mul_left_comm])]
 simp only
 rw [Pak.pixels_bytes]
theorem unpackAll_packed (W H : Nat) : ∀ fs : List F, (∀ f ∈ fs, f.2.length = H * W) → unpackAll W H (fs.map (packed W H)) = .ok fs
 | [], _ => rfl
 | f :: fs, h => by
  rw [List.map_cons, packed, unpackAll, unpackF_packed W H _ (h f (by simp))]
  simp only
  rw [unpackAll_packed W H fs fun g hg => h g (List.mem_cons_of_mem _ hg)]
theorem readC_film (W H loops : Nat) (fs : List F) (h : Ok W H loops fs) : readC (filmC W H loops fs) = .ok (W, H, loops, fs) := by
 have hh : rhead (filmC W H loops fs) = some ((W, H, fs.length, loops), parts W H 0 fs ++ [(kIEND, [])]) := by
  unfold rhead filmC headC
  rw [List.cons_append, takeC_yes kIHDR _ _ _ (fun n e => by injection e)]
  simp only
  rw [List.cons_append, takeC_yes kacTL _ _ _ (fun n e => by injection e)]
  simp only
  have e1 : (num W ++ (num H ++ [8, 6, 0, 0, 0])).take 4 = num W := List.take_left' rfl
  have e2 : ((num W ++ (num H ++ [8, 6, 0, 0, 0])).drop 4).take 4 = num H := by rw [List.drop_left' (Pak.num_length W)]; exact List.take_left' rfl
  have e3 : (num W ++ (num H ++ [8, 6, 0, 0, 0])).drop 8 = [8, 6, 0, 0, 0] := rfl
  have e4 : (num fs.length ++ num loops).take 4 = num fs.length := List.take_left' rfl
  have e5 : (num fs.length ++ num loops).drop 4 = num loops := List.drop_left' rfl
  rw [e1, e2, e3, e4, e5, val_num W (by have := h.w; omega), val_num H (by have := h.h; omega), val_num _ (by have := h.many; omega), val_num loops (by have := h.loops; omega)]
  rw [if_neg (by have := h.w; have := h.h; simp; omega), if_neg (by have := h.many; have := h.loops; have := h.all; omega)]
  rfl
 unfold readC
 rw [hh]
 simp only
 rw [rframes_parts W H fs 0 _ (fun f hf => (h.each f hf).1) (by have := h.many; omega)]
 simp only
 rw [if_neg (by simp), unpackAll_packed W H fs fun f hf => (h.each f hf).2]
theorem filmC_kind (W H loops : Nat) (fs : List F) : ∀ c ∈ filmC W H loops fs, isKind c.1 = true := by
 have hp : ∀ (fs : List F) (i : Nat), ∀ c ∈ parts W H i fs, isKind c.1 = true := by
  intro fs
  induction fs with
  | nil => intro i c hc; cases hc
  | cons f fs ih =>
   intro i c hc
   rw [parts] at hc
   rcases List.mem_append.1 hc with hc | hc
   ·unfold part datC at hc
    rcases List.mem_cons.1 hc with rfl | hc
    ·exact (by decide : isKind kfcTL = true)
    ·rw [List.mem_singleton.1 hc]
     split
     ·exact (by decide : isKind kIDAT = true)
     ·exact (by decide : isKind kfdAT = true)
   ·exact ih _ c hc
 intro c hc
 unfold filmC headC at hc
 rcases List.mem_append.1 hc with hc | hc
 ·rcases List.mem_cons.1 hc with rfl | hc
  ·exact (by decide : isKind kIHDR = true)
  ·rw [List.mem_singleton.1 hc]
   exact (by decide : isKind kacTL = true)
 ·rcases List.mem_append.1 hc with hc | hc
  ·exact hp _ _ c hc
  ·rw [List.mem_singleton.1 hc]
   exact (by decide : isKind kIEND = true)
theorem datC_length (W H i : Nat) (f : F) (hl : f.2.length = H * W) (hs : H * (4 * W + 1) ≤ 65535) : (chunkB (datC W H i f)).length ≤ 27 + H * (4 * W + 1) := by
 have hr := rowsOf_length W H f.2 hl
 have hz := Inf.zip_length (rowsOf W H f.2) (by omega)
 unfold datC
 split
 ·rw [chunkB_length _ (by decide : isKind kIDAT = true)]
  show (Inf.zip (rowsOf W H f.2)).length + 12 ≤ _
  omega
 ·rw [chunkB_length _ (by decide : isKind kfdAT = true)]
  show (num (2 * i) ++ Inf.zip (rowsOf W H f.2)).length + 12 ≤ _
  rw [List.length_append, Pak.num_length]
  omega
theorem parts_length (W H : Nat) (hs : H * (4 * W + 1) ≤ 65535) : ∀ (fs : List F) (i : Nat), (∀ f ∈ fs, f.2.length = H * W) → ((parts W H i fs).flatMap chunkB).length ≤ fs.length * (65 + H * (4 * W + 1))
 | [], _, _ => by simp [parts]
 | f :: fs, i, h => by
  have h1 := datC_length W H i f (h f (by simp)) hs
  have h2 := parts_length W H hs fs (i + 1) fun g hg => h g (List.mem_cons_of_mem _ hg)
  have h3 : (chunkB (kfcTL, control (2 * i - 1) W H f.1)).length = 38 := by rw [chunkB_length _ (by decide : isKind kfcTL = true)]; rfl
  rw [parts, part, List.flatMap_append, List.flatMap_cons, List.flatMap_cons, List.flatMap_nil, List.length_append, List.length_append, List.length_append, h3, List.length_cons, Nat.add_mul, Nat.one_mul, List.length_nil]
  omega
theorem film_length (W H loops : Nat) (fs : List F) (hf : ∀ f ∈ fs, f.2.length = H * W) (hH : H ≤ 256) (hm : fs.length ≤ 16) (h1 : H * W ≤ 3000) (h3 : fs.length * (H * W) ≤ 3000) : (film W H loops fs).length ≤ 20000 := by
 have e1 : H * (4 * W + 1) = 4 * (H * W) + H := by rw [Nat.mul_add, Nat.mul_one, Nat.mul_left_comm]
 have h4 := parts_length W H (by omega) fs 0 hf
 have e2 : fs.length * (65 + H * (4 * W + 1)) = 65 * fs.length + (4 * (fs.length * (H * W)) + fs.length * H) := by
  rw [e1, Nat.mul_add, Nat.mul_add, Nat.mul_left_comm fs.length 4, Nat.mul_comm fs.length 65]
 have h5 : fs.length * H ≤ 16 * 256 := Nat.mul_le_mul hm hH
 have c1 : (chunkB (kIHDR, num W ++ (num H ++ [8, 6, 0, 0, 0]))).length = 25 := by rw [chunkB_length _ (by decide : isKind kIHDR = true)]; rfl
 have c2 : (chunkB (kacTL, num fs.length ++ num loops)).length = 20 := by rw [chunkB_length _ (by decide : isKind kacTL = true)]; rfl
 have c3 : (chunkB (kIEND, [])).length = 12 := by rw [chunkB_length _ (by decide : isKind kIEND = true)]; rfl
 unfold film file filmC headC
 rw [List.flatMap_append, List.flatMap_append, List.flatMap_cons, List.flatMap_cons, List.flatMap_cons, List.flatMap_nil, List.length_append, List.length_append, List.length_append, List.length_append, List.length_append, List.length_append, c1, c2, c3, List.length_nil]
 show 8 + _ ≤ _
 omega
theorem read_film (W H loops : Nat) (fs : List F) (h : Ok W H loops fs) (hm : (film W H loops fs).length ≤ 300000) : read (film W H loops fs) = .ok (W, H, loops, fs) := by
 unfold read film
 rw [chunks_file _ (filmC_kind W H loops fs) hm]
 simp only
 rw [readC_film W H loops fs h]
end Film
end Go.Proofs.YtkegkelaffohjaaGreatDoor
/- bits.Reader: Align, Bytes: the walks. -/
namespace Go.Proofs.YtkegkelaffohjaaGreatDoor
open Go Go.RowKit
theorem ralign_any (g : Nat) (s : ByteArray) (bs : List Bool) (w : World) (h : RdB w g s bs) (hs : s.size ≤ 1099511627776) :
  Calls Tryz.prog 119 #[.pointer (some ⟨g, 0, none⟩)] w fun e w' => e = .returned (.tuple #[]) ∧ RdB w' g s (bs.drop (bs.length % 8)) ∧ Keeps (fun x => x = g) w w' := by
 obtain ⟨p, hb, hp, rfl⟩ := h.ex
 have d1 : w.cell? ⟨g, 1, none⟩ = some (.int .i64 p) := by rw [hb.cell]; rfl
 have f1 := hb.free 1
 obtain ⟨q, hq⟩ : ∃ q, q = (p + 7) / 8 := ⟨_, rfl⟩
 have hqi : ((p : Int) + 7) / 8 = (q : Nat) := by omega
 have hp2 : p ≤ 8796093022208 := by omega
 have hq2 : q ≤ 8796093022208 := by omega
 have HQ := Lib.hid hq
 clear hq
 go_enter Tryz.func119, Tryz.ntmps119
 go_wp2
 go_end0
 have hset := hb.set_ 1 (.int .i64 (q * 8))
 refine ⟨rfl, ⟨q * 8, ?_, by have := HQ.out; omega, ?_⟩, Keeps.setCell (S := fun x => x = g) (p := ⟨g, 1, none⟩) (Keeps.refl _ w) (fun _ => rfl) _⟩
 ·have e : ((q * 8 : Nat) : Int) = q * 8 := by omega
  rw [e]
  simpa using hset
 ·rw [List.drop_drop, List.length_drop, Bit.bits_length, lst_length]
  congr 1
  have := HQ.out
  omega
theorem rbytes_no (g n : Nat) (s : ByteArray) (bs : List Bool) (w : World) (h : RdB w g s bs) (hs : s.size ≤ 1000000) (hn : n ≤ 65535) (h8 : bs.length % 8 = 0) (hlt : bs.length < 8 * n) :
  Calls Tryz.prog 176 #[.pointer (some ⟨g, 0, none⟩), .int .i64 n] w fun e w' => e = .returned (.tuple #[.string ⟨#[]⟩, .bool false]) ∧ Keeps (fun x => x = g) w w' := by
 go_enter Tryz.func176, Tryz.ntmps176
 go_wp2_with fail
 refine (ralign_any g s bs _ h (by omega)).mono ?_
 rintro e w1 ⟨rfl, h1, hk1⟩
 rw [h8, List.drop_zero] at h1
 obtain ⟨p, hb, hp, hbs⟩ := h1.ex
 have hbl : bs.length = 8 * s.size - p := by rw [hbs, List.length_drop, Bit.bits_length, lst_length]
 go_wp2_with fail
 refine (left_any g s p _ hb (by omega) hp).mono ?_
 rintro e w2 ⟨rfl, q, rfl⟩
 obtain ⟨L, hL⟩ : ∃ L, L = 8 * s.size - p := ⟨_, rfl⟩
 rw [← hL] at hbl ⊢
 have hi : (L : Int) < 8 * n := by omega
 clear hL hbl h1 hbs
 go_wp2_with fail
 go_ret2
 exact ⟨rfl, hk1.drewN q⟩
theorem bits_drop (s : List UInt8) (a : Nat) : (Bit.bits s).drop (8 * a) = Bit.bits (s.drop a) := by
 rcases Nat.lt_or_ge s.length a with h | h
 ·rw [List.drop_of_length_le (by rw [Bit.bits_length]; omega), List.drop_of_length_le (by omega)]
  rfl
 ·conv => lhs; rw [← List.take_append_drop a s]
  rw [bits_append, List.drop_left' (by rw [Bit.bits_length, List.length_take, Nat.min_eq_left h])]
theorem bits_take (s : List UInt8) (n : Nat) (h : n ≤ s.length) : (Bit.bits s).take (8 * n) = Bit.bits (s.take n) := by
 conv => lhs; rw [← List.take_append_drop n s]
 rw [bits_append, List.take_left' (by rw [Bit.bits_length, List.length_take, Nat.min_eq_left h])]
set_option maxHeartbeats 1000000 in
set_option maxRecDepth 100000 in
theorem rbytes_yes (g n : Nat) (s : ByteArray) (bs : List Bool) (w : World) (h : RdB w g s bs) (hs : s.size ≤ 1000000) (hn : n ≤ 65535) (h8 : bs.length % 8 = 0) (hlt : 8 * n ≤ bs.length) :
  Calls Tryz.prog 176 #[.pointer (some ⟨g, 0, none⟩), .int .i64 n] w fun e w' => (∃ t : ByteArray, e = .returned (.tuple #[.string t, .bool true]) ∧ lst t = Bit.pack (bs.take (8 * n))) ∧ RdB w' g s (bs.drop (8 * n)) ∧ Keeps (fun x => x = g) w w' := by
 go_enter Tryz.func176, Tryz.ntmps176
 go_wp2_with fail
 refine (ralign_any g s bs _ h (by omega)).mono ?_
 rintro e w1 ⟨rfl, h1, hk1⟩
 rw [h8, List.drop_zero] at h1
 obtain ⟨p, hb, hp, hbs⟩ := h1.ex
 have hbl : bs.length = 8 * s.size - p := by rw [hbs, List.length_drop, Bit.bits_length, lst_length]
 go_wp2_with fail
 refine (left_any g s p _ hb (by omega) hp).mono ?_
 rintro e w2 ⟨rfl, q, rfl⟩
 obtain ⟨L, hL⟩ : ∃ L, L = 8 * s.size - p := ⟨_, rfl⟩
 rw [← hL] at hbl ⊢
 have hLb : L ≤ 8000000 := by omega
 have hi : (8 : Int) * n ≤ L := by omega
 have d0 : w1.cell? ⟨g, 0, none⟩ = some (.string s) := by rw [hb.cell]; rfl
 have d1 : w1.cell? ⟨g, 1, none⟩ = some (.int .i64 p) := by rw [hb.cell]; rfl
 have f1 := hb.free 1
 obtain ⟨a, ha⟩ : ∃ a, a = p / 8 := ⟨_, rfl⟩
 obtain ⟨b, hbb⟩ : ∃ b, b = a + n := ⟨_, rfl⟩
 have hai : (p : Int) / 8 = (a : Nat) := by omega
 have hbi : (a : Int) + n = (b : Nat) := by omega
 have hab : a ≤ b := by omega
 have hp8 : p = 8 * a := by omega
 have hbsz : b ≤ s.size := by omega
 have HP8 := Lib.hid hp8
 have HBB := Lib.hid hbb
 have HBS := Lib.hid hbs
 have HLT := Lib.hid (show p + 8 * n ≤ 8 * s.size by omega)
 have hset := ((hb.drewN q).drew).set_ 1 (.int .i64 (p + 8 * n))
 clear ha hbb hlt hp8 hL hbl h1 hbs
 go_wp2_with fail
 go_region
 go_wp2_with fail
 go_ret2
 have hlt := HLT.out
 have hp8 := HP8.out
 have hbb := HBB.out
 have e1 : lst (s.extract a b) = ((lst s).drop a).take n := by
  rw [lst_extract, show b - a = n by omega]
 refine ⟨⟨_, rfl, ?_⟩, ⟨p + 8 * n, ?_, hlt, by rw [HBS.out, List.drop_drop]⟩, ?_⟩
 ·show lst (s.extract a b) = _
  rw [e1, HBS.out, hp8, bits_drop, bits_take _ _ (by rw [List.length_drop, lst_length]; omega), Inf.pack_bits]
 ·have e : ((p + 8 * n : Nat) : Int) = p + 8 * n := by omega
  rw [e]
  simpa using hset
 ·exact (Keeps.setCell (S := fun x => x = g) (p := ⟨g, 1, none⟩) ((hk1.drewN q).drew) (fun _ => rfl) _)
end Go.Proofs.YtkegkelaffohjaaGreatDoor
/- Keys of package lzw: the word ahead and the last number; a tree of words as a Go map. -/
namespace Go.Proofs.YtkegkelaffohjaaGreatDoor
open Go Go.RowKit
end Go.Proofs.YtkegkelaffohjaaGreatDoor
