/- Keys of package match: three bytes, as a Go map's. A finder of matches in memory. deflate.place: the walk. deflate's writer in memory; symbol: the walk. Tokens in memory. -/
import Derived.Test.YtkegkelaffohjaaGreatDoorKCFilmTwice2
import Derived.Test.YtkegkelaffohjaaGreatDoorQCFilmTwiceBitT
import Derived.ChangeKeysEq
import Derived.BigRegion
import Derived.Deep.RegionLaw
import Derived.Test.YtkegkelaffohjaaGreatDoorQCFilmTwiceHufCodes
import Derived.Deep.RegionHeld3
import Derived.Test.YtkegkelaffohjaaGreatDoorKCFilmTwice1
namespace Go.Proofs.YtkegkelaffohjaaGreatDoor
open Go Go.RowKit
abbrev Tri := UInt8 × UInt8 × UInt8
def triV (k : Tri) : Value := .agg #[.int .u8 k.1.toNat, .int .u8 k.2.1.toNat, .int .u8 k.2.2.toNat]
theorem triEqIn (w : World) (p q : Tri) : (Op.equalIn 10000 248 (triV p) (triV q)).run Tryz.prog w = .ok (decide (p = q)) w := by
 have u5 := Tryz.underlying5
 have a5 : ∀ w, (isAgg 5).run Tryz.prog w = .ok false w := fun _ => by kernel_rfl
 have z5 : ∀ w, (sizeOf 5).run Tryz.prog w = .ok 1 w := fun _ => by kernel_rfl
 obtain ⟨i0, hi, _⟩ := info_parts byteInfo
 simp only [triV]
 rw [show (10000 : Nat) = 9999 + 1 from rfl, run_equalIn_array w 9999 _ _ Tryz.underlying248 hi]
 have hc : Tryz.prog.cellsOf 5 = 1 := by kernel_rfl
 rw [hc]
 simp only [show List.range 3 = [0, 1, 2] from rfl, Op.eqItems]
 go_simp
 obtain ⟨a, b, c⟩ := p
 obtain ⟨a', b', c'⟩ := q
 have e : ((a, b, c) = (a', b', c')) ↔ ((a.toNat : Int) = a'.toNat ∧ (b.toNat : Int) = b'.toNat ∧ (c.toNat : Int) = c'.toNat) := by
  constructor
  ·intro h; injection h with h1 h2; injection h2 with h2 h3; subst h1; subst h2; subst h3; simp
  ·rintro ⟨h1, h2, h3⟩
   exact Prod.ext (UInt8.toNat_inj.1 (by dsimp only; omega)) (Prod.ext (UInt8.toNat_inj.1 (by dsimp only; omega)) (UInt8.toNat_inj.1 (by dsimp only; omega)))
 simp only [e]
 by_cases h1 : (a.toNat : Int) = a'.toNat <;> by_cases h2 : (b.toNat : Int) = b'.toNat <;> by_cases h3 : (c.toNat : Int) = c'.toNat <;> simp [h1, h2, h3]
theorem triCheck (w : World) (b : Bool) (p : Tri) : (Instr.checkKey b 10000 248 (triV p)).run Tryz.prog w = .ok () w := by
 have a5 : ∀ w, (isAgg 5).run Tryz.prog w = .ok false w := fun _ => by kernel_rfl
 have z5 : ∀ w, (sizeOf 5).run Tryz.prog w = .ok 1 w := fun _ => by kernel_rfl
 have key : ∀ n, (Instr.checkKey b (n + 1 + 1) 248 (triV p)).run Tryz.prog w = .ok () w := by
  intro n
  unfold Instr.checkKey
  simp [run_underlying Tryz.underlying248, triV, part, a5, z5, u8Check, Std.Legacy.Range.forIn_eq_forIn_range', Std.Legacy.Range.size, show List.range' 0 3 = [0, 1, 2] from rfl]
 exact key 9998
theorem triKey : KeyLaw Tryz.prog 248 triV := by
 refine ⟨fun w p q => triEqIn w p q, triCheck, ⟨_, Tryz.underlying248, fun p q r h => by cases h⟩, fun p => ?_⟩
 simp [Instr.sameBits, triV]
end Go.Proofs.YtkegkelaffohjaaGreatDoor
namespace Go.Proofs.YtkegkelaffohjaaGreatDoor
open Go Go.RowKit
def mval {κ : Type} [DecidableEq κ] (p : κ) (M : List (κ × Value)) : Option Value := (mfind p M 0).map (·.2)
theorem mfind_at {κ : Type} [DecidableEq κ] (p : κ) : ∀ (M : List (κ × Value)) (i : Nat), (mfind p M i).map (·.2) = mval p M
 | [], _ => rfl
 | (q, v) :: M, i => by
  have h1 := mfind_at p M (i + 1)
  have h2 := mfind_at p M (0 + 1)
  unfold mval
  by_cases h : p = q
  ·simp only [mfind, if_pos h, Option.map_some]
  ·simp only [mfind, if_neg h]
   rw [h1, h2]
theorem mval_cons {κ : Type} [DecidableEq κ] (p q : κ) (v : Value) (M : List (κ × Value)) : mval p ((q, v) :: M) = if p = q then some v else mval p M := by
 have h2 := mfind_at p M (0 + 1)
 by_cases h : p = q
 ·unfold mval
  simp only [mfind, if_pos h, Option.map_some]
 ·rw [if_neg h, ← h2]
  unfold mval
  simp only [mfind, if_neg h]
theorem mval_put {κ : Type} [DecidableEq κ] (p q : κ) (v : Value) : ∀ M : List (κ × Value), mval p (mput q v M) = if p = q then some v else mval p M
 | [] => by
  rw [mput, mval_cons]
 | (r, u) :: M => by
  have ih := mval_put p q v M
  rw [mput]
  by_cases hq : q = r
  ·rw [if_pos hq, mval_cons, mval_cons]
   by_cases h : p = q
   ·rw [if_pos h, if_pos (by rw [h, hq])]
   ·rw [if_neg h, if_neg (by rw [← hq]; exact h), if_neg (by rw [← hq]; exact h)]
  ·rw [if_neg hq, mval_cons, mval_cons, ih]
   by_cases h : p = r
   ·rw [if_pos h, if_neg (by rw [h]; exact fun e => hq e.symm), if_pos h]
   ·rw [if_neg h, if_neg h]
def tri (s : List UInt8) (k : Nat) : Tri := (s.getD k 0, s.getD (k + 1) 0, s.getD (k + 2) 0)
def triL (p : Tri) : List UInt8 := [p.1, p.2.1, p.2.2]
theorem key_tri (s : List UInt8) (k : Nat) (h : k + 3 ≤ s.length) : Mat.key s k = triL (tri s k) := by
 unfold Mat.key triL tri
 rw [List.drop_eq_getElem_cons (by omega), List.drop_eq_getElem_cons (by omega), List.drop_eq_getElem_cons (by omega), List.take_succ_cons, List.take_succ_cons, List.take_succ_cons, List.take_zero]
 simp only [List.getD_eq_getElem?_getD]
 rw [List.getElem?_eq_getElem (by omega), List.getElem?_eq_getElem (by omega), List.getElem?_eq_getElem (by omega)]
 rfl
theorem triL_inj {p q : Tri} (h : triL p = triL q) : p = q := by
 unfold triL at h
 injection h with h1 h
 injection h with h2 h
 injection h with h3 _
 exact Prod.ext h1 (Prod.ext h2 h3)
def triMap (s : List UInt8) : Nat → List (Tri × Value)
 | 0 => []
 | k + 1 => if k + 3 ≤ s.length then mput (tri s k) (.int .i64 k) (triMap s k) else triMap s k
theorem triMap_val (s : List UInt8) (p : Tri) : ∀ k, mval p (triMap s k) = (Mat.prev s k (triL p)).map fun j => Value.int .i64 j
 | 0 => rfl
 | k + 1 => by
  have ih := triMap_val s p k
  rw [triMap, Mat.prev]
  by_cases h : k + 3 ≤ s.length
  ·rw [if_pos h, mval_put, key_tri s k h]
   by_cases e : p = tri s k
   ·rw [if_pos e, if_pos (by rw [e])]
    rfl
   ·rw [if_neg e, if_neg (fun h => e (triL_inj h).symm), ih]
  ·have hl : Mat.key s k ≠ triL p := by
    intro e
    have := congrArg List.length e
    unfold Mat.key at this
    rw [List.length_take, List.length_drop] at this
    simp [triL] at this
    omega
   rw [if_neg h, if_neg hl, ih]
theorem tri_lookup (w : World) (mb : Nat) (s : List UInt8) (a : Nat) (p : Tri) (h : MapAt w mb triV (triMap s a)) :
  (Instr.lookup 245 (.map (some mb)) (triV p) true).run Tryz.prog w = .ok (match Mat.prev s a (triL p) with
   | some j => .tuple #[.int .i64 j, .bool true]
   | none => .tuple #[.int .i64 0, .bool false]) w := by
 have hz : ∀ W' : World, (zeroValue 3).run Tryz.prog W' = .ok (.int .i64 0) W' := fun _ => by kernel_rfl
 have hlk := run_lookup_at triKey Tryz.underlying245 (hz _) h p true
 have hv := triMap_val s p a
 rw [hlk]
 cases hf : mfind p (triMap s a) 0 with
 | none =>
  unfold mval at hv
  rw [hf] at hv
  cases hp : Mat.prev s a (triL p) with
  | none => rfl
  | some j => rw [hp] at hv; exact absurd hv (by simp)
 | some r =>
  obtain ⟨i, v⟩ := r
  unfold mval at hv
  rw [hf] at hv
  cases hp : Mat.prev s a (triL p) with
  | none => rw [hp] at hv; exact absurd hv (by simp)
  | some j =>
   rw [hp] at hv
   have hv2 : some v = some (Value.int .i64 j) := hv
   have hv3 := Option.some.inj hv2
   rw [hv3]
   simp
def ahOne (s : List UInt8) (k : Nat) : Int := match Mat.prev s k (Mat.key s k) with
 | none => -1
 | some j => (j : Int)
def ahead (s : List UInt8) (a : Nat) : List Int := (List.range s.length).map fun k => if k < a ∧ k + 3 ≤ s.length then ahOne s k else 0
theorem ahead_length (s : List UInt8) (a : Nat) : (ahead s a).length = s.length := by simp [ahead]
theorem ahead_zero (s : List UInt8) : ahead s 0 = List.replicate s.length 0 := by
 unfold ahead
 refine List.ext_getElem (by simp) fun i h1 h2 => ?_
 simp
theorem ahead_at (s : List UInt8) (a k : Nat) (h1 : k < a) (h2 : k + 3 ≤ s.length) : (ahead s a)[k]? = some (ahOne s k) := by
 unfold ahead
 rw [List.getElem?_map, List.getElem?_range (by omega)]
 simp [h1, h2]
theorem ahead_get (s : List UInt8) (a k : Nat) (h : k < s.length) : (ahead s a)[k]? = some (if k < a ∧ k + 3 ≤ s.length then ahOne s k else 0) := by
 unfold ahead
 rw [List.getElem?_map, List.getElem?_range h]
 rfl
theorem ahead_set (s : List UInt8) (a : Nat) (h : a + 3 ≤ s.length) : (ahead s a).set a (ahOne s a) = ahead s (a + 1) := by
 refine List.ext_getElem? fun i => ?_
 rcases Nat.lt_or_ge i s.length with hi | hi
 ·rw [List.getElem?_set, ahead_get _ _ _ hi, ahead_get _ _ _ hi, ahead_length]
  by_cases e : a = i
  ·subst e
   rw [if_pos rfl, if_pos hi, if_pos ⟨by omega, h⟩]
  ·rw [if_neg e]
   by_cases c : i < a
   ·by_cases d : i + 3 ≤ s.length
    ·rw [if_pos ⟨c, d⟩, if_pos ⟨by omega, d⟩]
    ·rw [if_neg (by omega), if_neg (by omega)]
   ·rw [if_neg (by omega), if_neg (by omega)]
 ·rw [List.getElem?_eq_none (by rw [List.length_set, ahead_length]; exact hi), List.getElem?_eq_none (by rw [ahead_length]; exact hi)]
theorem ahead_same (s : List UInt8) (a : Nat) (h : s.length < a + 3) : ahead s (a + 1) = ahead s a := by
 unfold ahead
 refine List.map_congr_left fun k hk => ?_
 by_cases d : k + 3 ≤ s.length
 ·have : k ≠ a := by omega
  by_cases c : k < a
  ·rw [if_pos ⟨by omega, d⟩, if_pos ⟨c, d⟩]
  ·rw [if_neg (by omega), if_neg (by omega)]
 ·rw [if_neg (by omega), if_neg (by omega)]
structure Fnd (w : World) (B fb mb : Nat) (v : Value) (s : ByteArray) (tr a : Nat) : Prop where
 blk : Blk w fb 247 #[.string s, .int .i64 32768, .map (some mb), v, .int .i64 tr]
 map : MapAt w mb triV (triMap (lst s) a)
 own : Own w B 1 v s.size (ints (ahead (lst s) a))
 fm : fb ≠ mb
 vf : v.ownBlock ≠ some fb
 vm : v.ownBlock ≠ some mb
 bf : B ≤ fb
 bm : B ≤ mb
end Go.Proofs.YtkegkelaffohjaaGreatDoor
namespace Go.Proofs.YtkegkelaffohjaaGreatDoor
open Go Go.RowKit
theorem place_step (row : List Nat) (n k : Nat) (h : n < row.getD (k + 1) 0) : Inf.place row n (k + 1) = Inf.place row n k := by rw [Inf.place, if_pos h]
theorem place_stop (row : List Nat) (n k : Nat) (h : row.getD k 0 ≤ n) : Inf.place row n k = k := by
 cases k with
 | zero => rfl
 | succ k => rw [Inf.place, if_neg (by omega)]
set_option maxRecDepth 100000 in
theorem place_any (B m c n : Nat) (A : Option Addr) (row : List Nat) (w : World) (hr : Reads w B 1 A m (nats row)) (h0 : 0 < row.length) (hl : row.length ≤ 1000) (hn : row.getD 0 0 ≤ n) (_hn2 : n ≤ 1000000) :
  Calls Tryz.prog 167 #[.slice A m c, .int .i64 n] w fun e w' => e = .returned (.int .i64 (Inf.place row n (row.length - 1))) ∧ w' = w := by
 have hm : m = row.length := by have := hr.1; rw [nats_length] at this; omega
 subst hm
 obtain ⟨ga, oa, rfl, hga⟩ := hr.addr (by omega)
 obtain ⟨R, hR⟩ : ∃ R, R = Inf.place row n (row.length - 1) := ⟨_, rfl⟩
 rw [← hR]
 have HR := Lib.hid hR
 clear hR
 obtain ⟨t, ht⟩ : ∃ t, t = row.length - 1 := ⟨_, rfl⟩
 have hti : (row.length : Int) - 1 = (t : Nat) := by omega
 have htl : t < row.length := by omega
 have HT := Lib.hid ht
 clear ht
 go_enter Tryz.func167, Tryz.ntmps167
 go_wp2_with fail
 go_loop [5] (fun kv => ∃ k : Nat, k ≤ t ∧ kv = .int .i64 k ∧ Inf.place row n k = R) (fun kv => (intOf kv).toNat)
 case atStart => exact ⟨t, Nat.le_refl _, rfl, by rw [HR.out, HT.out]⟩
 case round =>
  obtain ⟨k, hk, rfl, hp⟩ := hrel
  have HP := Lib.hid hp
  clear hp
  have hkl : k < row.length := by omega
  have hcell := hr.cell rfl k (by rw [Nat.mul_one]; exact hkl)
  rw [nats_at _ _ hkl] at hcell
  obtain ⟨x, hx⟩ : ∃ x, x = row[k] := ⟨_, rfl⟩
  have hxd : row.getD k 0 = x := by rw [hx, List.getD_eq_getElem?_getD, List.getElem?_eq_getElem hkl]; rfl
  rw [← hx] at hcell
  have HXD := Lib.hid hxd
  clear hx hxd
  by_cases hlt : n < x
  ·have hk0 : k ≠ 0 := by
    intro e
    have := HXD.out
    rw [e] at this
    omega
   obtain ⟨k2, hk2⟩ : ∃ k2, k = k2 + 1 := ⟨k - 1, by omega⟩
   subst hk2
   have hst := place_step row n k2 (by rw [HXD.out]; exact hlt)
   rw [HP.out] at hst
   have HST := Lib.hid hst
   clear hst
   go_wp2_with fail
   go_round
   case rel => exact ⟨k2, by omega, by go_num, HST.out.symm⟩
   case measure => simp [intOf]
  ·have hle : (x : Int) ≤ n := by omega
   have hst := place_stop row n k (by rw [HXD.out]; omega)
   rw [HP.out] at hst
   have HST := Lib.hid hst
   clear hst hlt
   go_wp2_with fail
   go_ret
   exact ⟨by rw [HST.out]; rfl, rfl⟩
end Go.Proofs.YtkegkelaffohjaaGreatDoor
namespace Go.Proofs.YtkegkelaffohjaaGreatDoor
open Go Go.RowKit
structure Far (w : World) (gb : Nat) (v : Value) (x : Nat) : Prop where
 lt : x < w.heap.size
 ne : x ≠ gb
 nv : v.ownBlock ≠ some x
structure Wri (w : World) (g gb : Nat) (v L D LC DC : Value) (ln dn lc dc : List Nat) : Prop where
 blk : Blk w g 221 #[.pointer (some ⟨gb, 0, none⟩), L, D, LC, DC]
 l : Vals w 1 L ln.length (nats ln)
 d : Vals w 1 D dn.length (nats dn)
 lc : Vals w 1 LC lc.length (u32s lc)
 dc : Vals w 1 DC dc.length (u32s dc)
 ag : Far w gb v g
 al : ∀ x, L.ownBlock = some x → Far w gb v x
 ad : ∀ x, D.ownBlock = some x → Far w gb v x
 alc : ∀ x, LC.ownBlock = some x → Far w gb v x
 adc : ∀ x, DC.ownBlock = some x → Far w gb v x
def WS (gb : Nat) (v : Value) (x : Nat) : Prop := x = gb ∨ v.ownBlock = some x
theorem Far.off {w : World} {gb x : Nat} {v : Value} (h : Far w gb v x) : ¬ WS gb v x := fun e => e.elim h.ne h.nv
theorem Far.on {w w' : World} {gb x : Nat} {v v' : Value} (h : Far w gb v x) (hs : w.heap.size ≤ w'.heap.size) (hf : Fresh w v v') : Far w' gb v' x :=
 ⟨Nat.lt_of_lt_of_le h.lt hs, h.ne, fun e => by
  rcases hf x e with e2 | e2
  ·exact h.nv e2
  ·have := h.lt; omega⟩
theorem Wri.on {w w' : World} {g gb : Nat} {v v' L D LC DC : Value} {ln dn lc dc : List Nat} (h : Wri w g gb v L D LC DC ln dn lc dc) (hf : Fresh w v v') (k : Keeps (fun x => x = gb ∨ v.ownBlock = some x) w w') : Wri w' g gb v' L D LC DC ln dn lc dc :=
 ⟨h.blk.keeps k h.ag.off, h.l.keeps k fun x hx => (h.al x hx).off, h.d.keeps k fun x hx => (h.ad x hx).off, h.lc.keeps k fun x hx => (h.alc x hx).off, h.dc.keeps k fun x hx => (h.adc x hx).off,
  h.ag.on k.size hf, fun x hx => (h.al x hx).on k.size hf, fun x hx => (h.ad x hx).on k.size hf, fun x hx => (h.alc x hx).on k.size hf, fun x hx => (h.adc x hx).on k.size hf⟩
theorem Vals.at {w : World} {v : Value} {n : Nat} {xs : List Value} (h : Vals w 1 v n xs) (k : Nat) (hk : k < n) : ∃ g off c, v = .slice (some ⟨g, off, none⟩) n c ∧ w.cell? ⟨g, off + k, none⟩ = xs[k]? := by
 obtain ⟨A, c, rfl, hr⟩ := h
 obtain ⟨g, off, rfl, hg⟩ := hr.addr (by omega)
 exact ⟨g, off, c, rfl, hr.cell rfl k (by omega)⟩
def wordOf (lc ln : List Nat) (k : Nat) : List Bool := Huf.high (lc.getD k 0) (ln.getD k 0)
def CodesOK (lc ln : List Nat) : Prop := ∀ k, ln.getD k 0 ≤ 15 ∧ lc.getD k 0 < 2 ^ ln.getD k 0
theorem getD_at (l : List Nat) (k : Nat) (hk : k < l.length) : l.getD k 0 = l[k] := by rw [List.getD_eq_getElem?_getD, List.getElem?_eq_getElem hk]; rfl
theorem BW.drew {w : World} {B g : Nat} {T : TypeId} {r : List Value} {v : Value} {bs : List Bool} (h : BW w B g T r v bs) : BW w.drew B g T r v bs := ⟨h.blk.drew, h.own.drew, h.ne⟩
theorem Wrote.undrew {w w' : World} {B g : Nat} {T : TypeId} {r : List Value} {v : Value} {bs : List Bool} (h : Wrote w.drew B g T r v bs w') : Wrote w B g T r v bs w' := by
 obtain ⟨v', h1, h2, h3⟩ := h
 exact ⟨v', h1, h2, ⟨h3.os, h3.tape, h3.output, h3.size, h3.block⟩⟩
theorem getD_le {l : List Nat} {m : Nat} (h : ∀ x ∈ l, x ≤ m) (k : Nat) : l.getD k 0 ≤ m := by
 rw [List.getD_eq_getElem?_getD]
 rcases Nat.lt_or_ge k l.length with hk | hk
 ·rw [List.getElem?_eq_getElem hk]
  exact h _ (List.getElem_mem hk)
 ·rw [List.getElem?_eq_none hk]
  exact Nat.zero_le _
set_option maxRecDepth 100000 in
set_option maxHeartbeats 1000000 in
theorem symbol_any (B g gb k : Nat) (v L D LC DC : Value) (ln dn lc dc : List Nat) (bs : List Bool) (w : World) (h : Wri w g gb v L D LC DC ln dn lc dc) (hw : BW w B gb 215 [] v bs)
  (h1 : k < ln.length) (h2 : k < lc.length) (hn : ln.getD k 0 ≤ 15) (hcn : lc.getD k 0 < 2 ^ ln.getD k 0) (hlen : bs.length ≤ 549755813888) (hB : B ≤ w.heap.size) :
  Calls Tryz.prog 166 #[.pointer (some ⟨g, 0, none⟩), .int .i64 k] w fun e w' => e = .returned (.tuple #[]) ∧ Wrote w B gb 215 [] v (bs ++ wordOf lc ln k) w' := by
 obtain ⟨gl, ol, cl, rfl, hl⟩ := h.l.at k h1
 obtain ⟨gc, oc, cc, rfl, hc⟩ := h.lc.at k h2
 rw [nats_at _ _ h1, ← getD_at _ _ h1] at hl
 rw [u32s_at _ _ h2, ← getD_at _ _ h2] at hc
 unfold wordOf
 obtain ⟨n, hne⟩ : ∃ n, n = ln.getD k 0 := ⟨_, rfl⟩
 obtain ⟨code, hce⟩ : ∃ code, code = lc.getD k 0 := ⟨_, rfl⟩
 rw [← hne] at hl hn hcn ⊢
 rw [← hce] at hc hcn ⊢
 have d0 : w.cell? ⟨g, 0, none⟩ = some (.pointer (some ⟨gb, 0, none⟩)) := by rw [h.blk.cell]; rfl
 have d1 : w.cell? ⟨g, 1, none⟩ = some (.slice (some ⟨gl, ol, none⟩) ln.length cl) := by rw [h.blk.cell]; rfl
 have d3 : w.cell? ⟨g, 3, none⟩ = some (.slice (some ⟨gc, oc, none⟩) lc.length cc) := by rw [h.blk.cell]; rfl
 have hcall := turned_any B gb 215 [] v bs code n w.drew hw.drew (by omega) hcn hlen hB
 have HC := Lib.hid hcall
 have HK := Lib.hid (show ∀ w2, Wrote w B gb 215 [] v (bs ++ Huf.high code n) w2 → w2.cell? ⟨g, 0, none⟩ = some (.pointer (some ⟨gb, 0, none⟩)) ∧ w2.cell? ⟨g, 1, none⟩ = some (.slice (some ⟨gl, ol, none⟩) ln.length cl) ∧ w2.cell? ⟨g, 3, none⟩ = some (.slice (some ⟨gc, oc, none⟩) lc.length cc) ∧ w2.cell? ⟨gl, ol + k, none⟩ = some (.int .i64 n) ∧ w2.cell? ⟨gc, oc + k, none⟩ = some (.int .u32 code) from fun w2 hw2 => by
  obtain ⟨v2, _, _, k2⟩ := hw2
  refine ⟨?_, ?_, ?_, ?_, ?_⟩
  ·rw [(h.blk.keeps k2 h.ag.off).cell]; rfl
  ·rw [(h.blk.keeps k2 h.ag.off).cell]; rfl
  ·rw [(h.blk.keeps k2 h.ag.off).cell]; rfl
  ·rw [World.cell?_of_block (a := ⟨gl, ol + k, none⟩) (k2.block gl (h.al gl rfl).lt (h.al gl rfl).off)]; exact hl
  ·rw [World.cell?_of_block (a := ⟨gc, oc + k, none⟩) (k2.block gc (h.alc gc rfl).lt (h.alc gc rfl).off)]; exact hc)
 clear hcall h hw hcn hne hce
 go_enter Tryz.func166, Tryz.ntmps166
 go_wp2_with fail
 refine wp_region_held_drew (S := (fun w' => w'.cell? ⟨g, 0, none⟩ = some (.pointer (some ⟨gb, 0, none⟩)) ∧ w'.cell? ⟨g, 1, none⟩ = some (.slice (some ⟨gl, ol, none⟩) ln.length cl) ∧ w'.cell? ⟨g, 3, none⟩ = some (.slice (some ⟨gc, oc, none⟩) lc.length cc) ∧ w'.cell? ⟨gl, ol + k, none⟩ = some (.int .i64 n) ∧ w'.cell? ⟨gc, oc + k, none⟩ = some (.int .u32 code))) (by kernel_rfl) ?_ (fun hHeld => ?_)
 ·exact ⟨d0, d1, d3, hl, hc⟩
 refine opT 0 rfl ?_; refine opT 1 rfl ?_; refine opT 2 rfl ?_; refine opT 3 rfl ?_; refine opT 4 rfl ?_; refine opT 5 rfl ?_; refine opT 6 rfl ?_; refine opT 7 rfl ?_; refine opT 8 rfl ?_; refine opT 9 rfl ?_; refine opT 10 rfl ?_; refine opT 11 rfl ?_; refine opT 12 rfl ?_; refine opT 13 rfl ?_; refine opT 14 rfl ?_; refine opT 15 rfl ?_; refine opT 16 rfl ?_; refine opT 17 rfl ?_
 refine opD 18 rfl (fun K hK => ?_)
 go_simp
 (go_at_call 148; with_reducible refine HC.out.mono ?_; rintro e w2 ⟨rfl, hw2⟩)
 refine hK.out _ _ ?_ (fun hHeld => ?_)
 ·exact HK.out _ hw2.undrew
 clear hK K
 (try simp only [Act.put, nz1, nz2, nz3, nz4, nz5, nz6])
 refine wpAnyH_done (by kernel_rfl) ?_ _
 have hw3 := hw2.undrew
 clear hw2
 go_wp2_with fail
 go_end0
 exact ⟨rfl, hw3⟩
end Go.Proofs.YtkegkelaffohjaaGreatDoor
namespace Go.Proofs.YtkegkelaffohjaaGreatDoor
open Go Go.RowKit
def tokCs (t : Mat.Tok) : List Value := [.int .u8 t.b.toNat, .int .i64 (t.n : Int), .int .i64 (t.d : Int)]
def tokCells (l : List Mat.Tok) : List Value := l.flatMap tokCs
theorem tokCells_length (l : List Mat.Tok) : (tokCells l).length = l.length * 3 := flatCells_length tokCs 3 (fun _ => rfl) l
theorem tokCells_one (l : List Mat.Tok) : ∀ u ∈ tokCells l, u.oneCell' = true := by
 intro u hu
 obtain ⟨p, _, hp⟩ := List.mem_flatMap.1 hu
 simp only [tokCs, List.mem_cons, List.not_mem_nil, or_false] at hp
 rcases hp with rfl | rfl | rfl <;> rfl
theorem Reads.tok {w : World} {B n g off : Nat} {l : List Mat.Tok} (h : Reads w B 3 (some ⟨g, off, none⟩) n (tokCells l)) (i : Nat) (hi : i < l.length) :
  w.cell? ⟨g, off + i * 3, none⟩ = some (.int .u8 l[i].b.toNat) ∧ w.cell? ⟨g, off + i * 3 + 1, none⟩ = some (.int .i64 (l[i].n : Int)) ∧ w.cell? ⟨g, off + i * 3 + 2, none⟩ = some (.int .i64 (l[i].d : Int)) := by
 have hn : n * 3 = l.length * 3 := by rw [← h.1, tokCells_length]
 have key : ∀ j, j < 3 → w.cell? ⟨g, off + i * 3 + j, none⟩ = (tokCs l[i])[j]? := fun j hj => by
  have h1 := h.cell rfl (i * 3 + j) (by omega)
  have h2 := flatCells_at tokCs 3 (fun _ => rfl) l i hi j hj
  rw [Nat.add_assoc, h1]
  exact h2
 exact ⟨key 0 (by omega), key 1 (by omega), key 2 (by omega)⟩
namespace Mat
theorem toks_end (s : List UInt8) (tr : Nat) : ∀ (f a : Nat), s.length ≤ a → toks s tr f a = []
 | 0, _, _ => rfl
 | f + 1, a, h => by rw [toks, if_neg (by omega)]
def Plain (t : Tok) : Prop := t.n = 0 ∨ (3 ≤ t.n ∧ t.n ≤ 258 ∧ 1 ≤ t.d ∧ t.d ≤ 32768)
theorem tokens_plain (s : List UInt8) : ∀ t ∈ tokens s, Plain t := Inf.allOK_of _ 0 (toks_ok s _ _ 0)
end Mat
namespace Inf
open Mat
theorem lenBits_le (k : Nat) : LenBits.getD k 0 ≤ 5 := by
 rcases Nat.lt_or_ge k 29 with h | h
 ·have : ∀ k, k < 29 → LenBits.getD k 0 ≤ 5 := by decide
  exact this k h
 ·rw [List.getD_eq_getElem?_getD, List.getElem?_eq_none (by simpa [LenBits] using h)]
  simp
theorem distBits_le (k : Nat) : DistBits.getD k 0 ≤ 13 := by
 rcases Nat.lt_or_ge k 30 with h | h
 ·have : ∀ k, k < 30 → DistBits.getD k 0 ≤ 13 := by decide
  exact this k h
 ·rw [List.getD_eq_getElem?_getD, List.getElem?_eq_none (by simpa [DistBits] using h)]
  simp
theorem tokBits_le (wl wd : Nat → List Bool) (hl : ∀ k, (wl k).length ≤ 15) (hd : ∀ k, (wd k).length ≤ 15) (t : Tok) : (tokBits wl wd t).length ≤ 48 := by
 unfold tokBits
 split
 ·have := hl t.b.toNat; omega
 ·have h1 := hl (257 + lenAt t.n)
  have h2 := hd (distAt t.d)
  have h3 := lenBits_le (lenAt t.n)
  have h4 := distBits_le (distAt t.d)
  rw [List.length_append, List.length_append, List.length_append, Bit.low_length, Bit.low_length]
  omega
theorem toksBits_le (wl wd : Nat → List Bool) (hl : ∀ k, (wl k).length ≤ 15) (hd : ∀ k, (wd k).length ≤ 15) : ∀ l : List Tok, (l.flatMap (tokBits wl wd)).length ≤ 48 * l.length
 | [] => by simp
 | t :: l => by
  have h1 := tokBits_le wl wd hl hd t
  have h2 := toksBits_le wl wd hl hd l
  rw [List.flatMap_cons, List.length_append, List.length_cons]
  omega
end Inf
end Go.Proofs.YtkegkelaffohjaaGreatDoor
