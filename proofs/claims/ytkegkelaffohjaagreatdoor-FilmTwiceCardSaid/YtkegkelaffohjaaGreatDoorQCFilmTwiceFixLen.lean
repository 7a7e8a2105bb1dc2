/- copy, of elements of so many cells; a slice of one's own turned in place. slices.Grow (of nothing), Concat of packages: the walks. Printed by mkconcat.py. slices.Grow (of nothing), Concat of numbers: the walks. Printed by mkconcat.py. math/bits.Mul, Mul64 at small numbers; slices.Repeat of one number: the walks. inflate.FixedLengths: the walk. -/
import Derived.Test.YtkegkelaffohjaaGreatDoorKCFilmTwice0
import Derived.Lib.Overlaps
import Derived.Deep.RegionLaw
import Derived.Test.YtkegkelaffohjaaGreatDoorQCFilmTwicePkMem
import Derived.Lib.AppendZerosOnto
import Derived.Deep.Cut
import Derived.Deep.DeepCutAuto
import Derived.Test.YtkegkelaffohjaaGreatDoorQCFilmTwiceHufCodes
import Derived.Test.YtkegkelaffohjaaGreatDoorKCFilmTwice2
namespace Go.Proofs.YtkegkelaffohjaaGreatDoor
open Go Go.RowKit
theorem run_copy_cells_n {P : Program} (w : World) (dT sT ty elem : TypeId) (i : TypeInfo) (size : Nat) (b o dLen dCap : Nat) (a : Addr) (sLen sCap : Nat) (cs : List Value)
  (hu : P.underlying dT = some (.slice elem)) (hi : P.info? elem = some i) (hs : i.size = size) (hn : cs.length = Nat.min sLen dLen * size)
  (hsrc : ∀ j v, cs[j]? = some v → w.cell? (a.add j) = some v) (hc : ∀ j, j < cs.length → (w.cell? ⟨b, o + j, none⟩).isSome = true) (hf : ∀ j, j < cs.length → w.frozen? ⟨b, o + j, none⟩ = false) (h1 : ∀ v ∈ cs, v.oneCell' = true) :
  (Builtin.copy_ #[dT, sT] ty #[.slice (some ⟨b, o, none⟩) dLen dCap, .slice (some a) sLen sCap]).run P w = .ok (goInt (Nat.min sLen dLen)) (w.setCells b o cs) := by
 have hl := run_loadCells_list (P := P) w a cs hsrc
 have hst := run_storeCells_cells (P := P) b o cs 0 w (by simpa using hc) (by simpa using hf) h1
 subst hs
 simp [Builtin.copy_, run_underlying hu, Builtin.lenOf, Builtin.firstCells, sizeOf, typeInfo, hi, ← hn, hl, hst]
theorem wpList_append_run {P : Program} (w : World) {ops : Array Oper} {rest : List Oper} {o : Oper} {a : Act} {Q : Exit → Act → World → Prop} (hgd : o.guard = none) (d s : Operand) (t t' : TypeId)
  (ho : o.op = .call { callee := .builtin .append, args := #[d, s], argTypes := #[t, t'] }) (v u : Value) (hd : a.eval d = v) (hs : a.eval s = u) {v' : Value} {w' : World}
  (hr : (Builtin.append_ #[t, t'] o.type #[v, u]).run P w = .ok v' w') (h : wpList P ops Q rest (a.put o.dst v') w') : wpList P ops Q (o :: rest) a w :=
 wpList_plain hgd fun K hK => by
  unfold Oper.wp execOp
  simp only [ho, resolve, invoke, builtin, Sem.run_bind, Sem.run_pure, Result.andThen_ok, List.map_toArray, List.map_cons, List.map_nil, hd, hs, hr]
  exact hK _ _ h
theorem Own.room {w : World} {base size n c g off : Nat} {xs : List Value} (h : Own w base size (.slice (some ⟨g, off, none⟩) n c) n xs) : n ≤ c ∧ c ≤ maxLen ∧ (∀ j, j < n * size → w.cell? ⟨g, off + j, none⟩ = xs[j]?) ∧ ∀ j, j < c * size → (w.cell? ⟨g, off + j, none⟩).isSome = true ∧ w.frozen? ⟨g, off + j, none⟩ = false := by
 rcases h.2 with ⟨e, _⟩ | ⟨g', off', cap, e, hb, hg, hn, hm, hx, hf⟩
 ·cases e
 ·injection e with e1 e2 e3
  injection e1 with e1
  injection e1 with e1 e4
  subst e1; subst e4; subst e3
  exact ⟨hn, hm, hx, hf⟩
theorem Own.turn {w w' : World} {base size n n' c g off : Nat} {xs ys : List Value} (h : Own w base size (.slice (some ⟨g, off, none⟩) n c) n xs) (hn : n' ≤ c) (hl : ys.length = n' * size) (hs : w'.heap.size = w.heap.size)
  (hx : ∀ j, j < n' * size → w'.cell? ⟨g, off + j, none⟩ = ys[j]?) (ht : ∀ j, j < c * size → (w'.cell? ⟨g, off + j, none⟩).isSome = true) (hf : ∀ a, w'.frozen? a = w.frozen? a) :
  Own w' base size (.slice (some ⟨g, off, none⟩) n' c) n' ys := by
 have hg := h.lt g rfl
 obtain ⟨_, hm, _, hr⟩ := h.room
 exact ⟨hl, .inr ⟨g, off, c, rfl, hg.1, by rw [hs]; exact hg.2, hn, hm, hx, fun j hj => ⟨ht j hj, by rw [hf]; exact (hr j hj).2⟩⟩⟩
theorem cell_setCells {w : World} {g o j : Nat} {vs : List Value} (hs : ∀ t, t < vs.length → (w.cell? ⟨g, o + t, none⟩).isSome = true) : (w.setCells g o vs).cell? ⟨g, j, none⟩ = if o ≤ j ∧ j < o + vs.length then vs[j - o]? else w.cell? ⟨g, j, none⟩ := by
 split
 ·rename_i h
  have := World.cell?_setCells_in g vs o w hs (j - o) (by omega)
  rw [show o + (j - o) = j by omega] at this
  rw [this, List.getElem?_eq_getElem]
 ·rename_i h
  exact World.cell?_setCells_out g vs o w _ (fun _ _ => by show j < o ∨ o + vs.length ≤ j; omega)
end Go.Proofs.YtkegkelaffohjaaGreatDoor
namespace Go.Proofs.YtkegkelaffohjaaGreatDoor
open Go Go.RowKit
set_option maxRecDepth 100000 in
set_option maxHeartbeats 2000000 in
theorem growP_any (n : Nat) (w : World) (hn : n ≤ 100000) :
  Calls Tryz.prog 185 #[.slice none 0 0, .int .i64 n] w fun e w' => ∃ A c, e = .returned (.slice A 0 c) ∧ Own w' w.heap.size 2 (.slice A 0 c) 0 [] ∧ Below w.heap.size w w' := by
 obtain ⟨i0, hi, hz0, hz1, hz2⟩ := info_parts pkInfo
 rcases Nat.eq_zero_or_pos n with h0 | h0
 ·subst h0
  go_enter Tryz.func185, Tryz.ntmps185
  go_wp2
  go_ret
  exact ⟨none, 0, rfl, Own.nil _ _ _, Below.refl _ _⟩
 ·have h0i : (0 : Int) < n := by omega
  have hge := grownCap_ge w n 0 262
  have hle := grownCap_le_maxLen w n 0 262 (by unfold maxLen; omega)
  have hmul : n * 32 ≤ 100000 * 32 := Nat.mul_le_mul_right _ hn
  have hap := fun ty => Lib.run_append_grow_zeros (P := Tryz.prog) w 260 3 ty 262 i0 _ .i64 .i64 Tryz.underlying260 Tryz.underlying3 hi hz0 none 0 0 [] (run_firstCells_none w.drew i0.size 0 0 0) n h0 (by rw [hz1]; decide) (by omega) (by omega) (by rw [hz2]; omega) (growslice_fits (by omega) (by rw [Nat.zero_add, hz2]; omega))
  rw [Nat.zero_add] at hap
  obtain ⟨G, hG⟩ : ∃ G, G = grownCap w n 0 262 := ⟨_, rfl⟩
  rw [← hG] at hap hge hle
  clear hG
  obtain ⟨Z, hZ⟩ : ∃ Z, Z = ([].toArray ++ Builtin.zeroCells (.agg #[.int .i64 0, .slice none 0 0] : Value).cells n ++ Builtin.zeroCells (.agg #[.int .i64 0, .slice none 0 0] : Value).cells (G - n) : Array Value) := ⟨_, rfl⟩
  have hZs : Z.size = G * 2 := by
   rw [hZ, Array.size_append, Array.size_append, size_zeroCells, size_zeroCells]
   have : (.agg #[.int .i64 0, .slice none 0 0] : Value).cells.size = 2 := rfl
   rw [this]
   simp only [List.size_toArray, List.length_nil]
   omega
  rw [← hZ] at hap
  have HB := Lib.hid (Blk.new w.drew 262 Z rfl)
  have HZS := Lib.hid hZs
  have HAP := Lib.hid hap
  clear hZ hZs hap
  have hng : (0 : Int) ≤ G := by omega
  go_enter Tryz.func185, Tryz.ntmps185
  go_wp2_with (at_builtin; refine wpList_append_run _ rfl (.tmp 20) (.tmp 21) 260 3 rfl (.slice none 0 0) (.int .i64 n) rfl rfl (HAP.out _) ?_)
  go_ret
  have hB : Below w.heap.size w (w.drew.alloc (.cells Z 262)) := (Below.refl w.heap.size w).drew.alloc (Nat.le_refl _) _
  refine ⟨some ⟨w.heap.size, 0, none⟩, G, rfl, ⟨by simp, .inr ⟨w.heap.size, 0, G, rfl, Nat.le_refl _, by simp, Nat.zero_le _, by omega, fun j hj => by simp at hj, fun j hj => ?_⟩⟩, hB⟩
  rw [Nat.zero_add]
  have hb : Blk (w.alloc (.cells Z 262)).drew w.heap.size 262 Z := HB.out
  refine ⟨?_, hb.free j⟩
  rw [hb.cell, Array.getElem?_eq_getElem (by rw [HZS.out]; exact hj)]
  rfl
structure PcP where
 A : Option Addr
 n : Nat
 c : Nat
 xs : List Value
def PcInP (w : World) (p : PcP) : Prop := Reads w w.heap.size 2 p.A p.n p.xs ∧ ∀ u ∈ p.xs, u.oneCell' = true
def sumP (ps : List PcP) : Nat := (ps.map fun p => p.n).sum
def allP (ps : List PcP) : List Value := ps.flatMap fun p => p.xs
theorem sumP_take (ps : List PcP) (i : Nat) (h : i < ps.length) : sumP (ps.take (i + 1)) = sumP (ps.take i) + (ps[i]).n := by
 unfold sumP
 rw [List.take_succ_eq_append_getElem h, List.map_append, List.sum_append]
 simp
theorem sumP_le (ps : List PcP) (i : Nat) : sumP (ps.take i) ≤ sumP ps := by
 unfold sumP
 conv => rhs; rw [← List.take_append_drop i ps, List.map_append, List.sum_append]
 omega
theorem allP_take (ps : List PcP) (i : Nat) (h : i < ps.length) : allP (ps.take (i + 1)) = allP (ps.take i) ++ (ps[i]).xs := by
 unfold allP
 rw [List.take_succ_eq_append_getElem h, List.flatMap_append, List.flatMap_cons, List.flatMap_nil, List.append_nil]
theorem allP_one (w : World) (ps : List PcP) (h : ∀ p ∈ ps, PcInP w p) (i : Nat) : ∀ u ∈ allP (ps.take i), u.oneCell' = true := by
 intro u hu
 obtain ⟨p, hp, hx⟩ := List.mem_flatMap.1 hu
 exact (h p (List.mem_of_mem_take hp)).2 u hx
set_option maxRecDepth 100000 in
set_option maxHeartbeats 4000000 in
theorem concatP_any (g o c : Nat) (ps : List PcP) (w : World) (hk : ps.length ≤ 1000) (hc : ∀ i (h : i < ps.length), w.cell? ⟨g, o + i, none⟩ = some (.slice (ps[i]).A (ps[i]).n (ps[i]).c)) (hp : ∀ p ∈ ps, PcInP w p) (hn : sumP ps ≤ 100000) :
  Calls Tryz.prog 173 #[.slice (some ⟨g, o, none⟩) ps.length c] w fun e w' => ∃ A c, e = .returned (.slice A (sumP ps) c) ∧ Own w' w.heap.size 2 (.slice A (sumP ps) c) (sumP ps) (allP ps) ∧ Below w.heap.size w w' := by
 obtain ⟨i0, hi, hz0, hz1, hz2⟩ := info_parts pkInfo
 have HC := Lib.hid hc
 have HP := Lib.hid hp
 clear hc hp
 go_enter Tryz.func173, Tryz.ntmps173
 go_wp2_with fail
 go_loopw [3, 11] (fun sv iv wr => ∃ i : Nat, i ≤ ps.length ∧ iv = .int .i64 i ∧ sv = .int .i64 (sumP (ps.take i) : Nat) ∧ w = wr) (fun _ iv _ => ps.length - (intOf iv).toNat)
 case atStart => exact ⟨0, Nat.zero_le _, rfl, by simp [sumP], rfl⟩
 case round =>
  obtain ⟨i, hik, rfl, rfl, rfl⟩ := hrel
  obtain ⟨s, hs⟩ : ∃ s, s = sumP (ps.take i) := ⟨_, rfl⟩
  have hsl := sumP_le ps i
  rw [← hs] at hsl ⊢
  by_cases hlt : i < ps.length
  ·have hcell := HC.out i hlt
   have hst := sumP_take ps i hlt
   have hsl2 := sumP_le ps (i + 1)
   rw [← hs] at hst
   obtain ⟨p, hpe⟩ : ∃ p, p = ps[i] := ⟨_, rfl⟩
   rw [← hpe] at hcell hst
   obtain ⟨m, hm⟩ : ∃ m, m = p.n := ⟨_, rfl⟩
   rw [← hm] at hcell hst
   obtain ⟨s2, hs2⟩ : ∃ s2, s2 = s + m := ⟨_, rfl⟩
   have hsi : (s : Int) + m = (s2 : Nat) := by omega
   have hs2l : s2 ≤ 100000 := by omega
   have h0 : (0 : Int) ≤ s2 := by omega
   have hneg : ¬ (s2 : Int) < 0 := by omega
   have HST := Lib.hid (show sumP (ps.take (i + 1)) = s2 by rw [hst, hs2])
   clear hst hsl2 hs hpe hm hs2
   go_wp2_with fail
   go_roundw
   case rel => exact ⟨i + 1, hlt, by go_num, by rw [HST.out], by first | rfl | trivial⟩
   case measure => simp [intOf]; omega
  ·have hik2 : i = ps.length := by omega
   subst hik2
   rw [List.take_length] at hs
   have HS := Lib.hid hs
   clear hs
   go_wp2_with fail
   refine (growP_any s w (by omega)).mono ?_
   rintro e w1 ⟨A, c1, rfl, ho, hb⟩
   have HO := Lib.hid ho
   have HB := Lib.hid hb
   clear ho hb
   go_wp2_with fail
   go_loopw [6, 27] (fun nv iv wr => ∃ (i : Nat) (A : Option Addr) (c : Nat), i ≤ ps.length ∧ iv = .int .i64 i ∧ nv = .slice A (sumP (ps.take i)) c ∧ Own wr w.heap.size 2 (.slice A (sumP (ps.take i)) c) (sumP (ps.take i)) (allP (ps.take i)) ∧ Below w.heap.size w wr) (fun _ iv _ => ps.length - (intOf iv).toNat)
   case atStart => exact ⟨0, A, c1, Nat.zero_le _, rfl, by simp [sumP], by simpa [sumP, allP] using HO.out, HB.out⟩
   case round =>
    clear HO HB
    obtain ⟨i, A, c1, hik, rfl, rfl, hO, hB⟩ := hrel
    by_cases hlt : i < ps.length
    ·have hcell : wr.cell? ⟨g, o + i, none⟩ = _ := bkeep hB (HC.out i hlt)
     have hpi := HP.out _ (List.getElem_mem hlt)
     have hone := allP_one w ps HP.out i
     have hst := sumP_take ps i hlt
     have hat := allP_take ps i hlt
     have hsl2 := sumP_le ps (i + 1)
     obtain ⟨p, hpe⟩ : ∃ p, p = ps[i] := ⟨_, rfl⟩
     rw [← hpe] at hcell hst hat hpi
     obtain ⟨pA, m, pc, px⟩ := p
     simp only at hcell hst hat hpi
     obtain ⟨hr, h1⟩ := hpi
     simp only at hr h1
     obtain ⟨s, hs⟩ : ∃ s, s = sumP (ps.take i) := ⟨_, rfl⟩
     obtain ⟨X, hX⟩ : ∃ X, X = allP (ps.take i) := ⟨_, rfl⟩
     rw [← hs] at hst hO ⊢
     rw [← hX] at hat hO hone
     have hrb := hr.below hB (Nat.le_refl _)
     have hsrc := hrb.src (P := Tryz.prog) Tryz.underlying260 (by decide) h1 pc
     have hbz := hB.size
     have HST := Lib.hid hst
     have HAT := Lib.hid hat
     have hsm : s + m ≤ 100000 := by omega
     clear hst hat hsl2 hs hX hpe hr hrb
     go_wp2_with (at_builtin; refine wpList_append_S rfl (.tmp 31) (.tmp 32) 260 260 rfl w.heap.size 262 i0 _ 2 32 Tryz.underlying260 hi hz0 hz1 hz2 rfl (by decide) (.slice A s c1) s X rfl hO hone m px hsrc (s + m) rfl (X ++ px) rfl (by unfold maxLen; omega) (by omega) hbz ?_; intro A' c' w4 hown4 hg4 hat4)
     have HO4 := Lib.hid hown4
     have HB4 := Lib.hid (Below.grown hB hg4 hbz fun g hg => (hO.lt g hg).1)
     clear hown4 hg4 hat4 hO hB
     go_roundw
     case rel => exact ⟨i + 1, A', c', hlt, by go_num, by rw [HST.out], by rw [HST.out, HAT.out]; exact HO4.out, HB4.out⟩
     case measure => simp [intOf]; omega
    ·have hik2 : i = ps.length := by omega
     subst hik2
     rw [List.take_length] at hO ⊢
     go_wp2
     go_ret
     exact ⟨A, c1, rfl, hO, hB⟩
end Go.Proofs.YtkegkelaffohjaaGreatDoor
namespace Go.Proofs.YtkegkelaffohjaaGreatDoor
open Go Go.RowKit
set_option maxRecDepth 100000 in
set_option maxHeartbeats 2000000 in
theorem growI_any (n : Nat) (w : World) (hn : n ≤ 100000) :
  Calls Tryz.prog 179 #[.slice none 0 0, .int .i64 n] w fun e w' => ∃ A c, e = .returned (.slice A 0 c) ∧ Own w' w.heap.size 1 (.slice A 0 c) 0 [] ∧ Below w.heap.size w w' := by
 obtain ⟨i0, hi, hz0, hz1, hz2⟩ := info_parts intInfo
 rcases Nat.eq_zero_or_pos n with h0 | h0
 ·subst h0
  go_enter Tryz.func179, Tryz.ntmps179
  go_wp2
  go_ret
  exact ⟨none, 0, rfl, Own.nil _ _ _, Below.refl _ _⟩
 ·have h0i : (0 : Int) < n := by omega
  have hge := grownCap_ge w n 0 3
  have hle := grownCap_le_maxLen w n 0 3 (by unfold maxLen; omega)
  have hmul : n * 8 ≤ 100000 * 8 := Nat.mul_le_mul_right _ hn
  have hap := fun ty => Lib.run_append_grow_zeros (P := Tryz.prog) w 119 3 ty 3 i0 _ .i64 .i64 Tryz.underlying119 Tryz.underlying3 hi hz0 none 0 0 [] (run_firstCells_none w.drew i0.size 0 0 0) n h0 (by rw [hz1]; decide) (by omega) (by omega) (by rw [hz2]; omega) (growslice_fits (by omega) (by rw [Nat.zero_add, hz2]; omega))
  rw [Nat.zero_add] at hap
  obtain ⟨G, hG⟩ : ∃ G, G = grownCap w n 0 3 := ⟨_, rfl⟩
  rw [← hG] at hap hge hle
  clear hG
  obtain ⟨Z, hZ⟩ : ∃ Z, Z = ([].toArray ++ Builtin.zeroCells (.int .i64 0 : Value).cells n ++ Builtin.zeroCells (.int .i64 0 : Value).cells (G - n) : Array Value) := ⟨_, rfl⟩
  have hZs : Z.size = G * 1 := by
   rw [hZ, Array.size_append, Array.size_append, size_zeroCells, size_zeroCells]
   have : (.int .i64 0 : Value).cells.size = 1 := rfl
   rw [this]
   simp only [List.size_toArray, List.length_nil]
   omega
  rw [← hZ] at hap
  have HB := Lib.hid (Blk.new w.drew 3 Z rfl)
  have HZS := Lib.hid hZs
  have HAP := Lib.hid hap
  clear hZ hZs hap
  have hng : (0 : Int) ≤ G := by omega
  go_enter Tryz.func179, Tryz.ntmps179
  go_wp2_with (at_builtin; refine wpList_append_run _ rfl (.tmp 20) (.tmp 21) 119 3 rfl (.slice none 0 0) (.int .i64 n) rfl rfl (HAP.out _) ?_)
  go_ret
  have hB : Below w.heap.size w (w.drew.alloc (.cells Z 3)) := (Below.refl w.heap.size w).drew.alloc (Nat.le_refl _) _
  refine ⟨some ⟨w.heap.size, 0, none⟩, G, rfl, ⟨by simp, .inr ⟨w.heap.size, 0, G, rfl, Nat.le_refl _, by simp, Nat.zero_le _, by omega, fun j hj => by simp at hj, fun j hj => ?_⟩⟩, hB⟩
  rw [Nat.zero_add]
  have hb : Blk (w.alloc (.cells Z 3)).drew w.heap.size 3 Z := HB.out
  refine ⟨?_, hb.free j⟩
  rw [hb.cell, Array.getElem?_eq_getElem (by rw [HZS.out]; exact hj)]
  rfl
structure PcI where
 A : Option Addr
 n : Nat
 c : Nat
 xs : List Value
def PcInI (w : World) (p : PcI) : Prop := Reads w w.heap.size 1 p.A p.n p.xs ∧ ∀ u ∈ p.xs, u.oneCell' = true
def sumI (ps : List PcI) : Nat := (ps.map fun p => p.n).sum
def allI (ps : List PcI) : List Value := ps.flatMap fun p => p.xs
theorem sumI_take (ps : List PcI) (i : Nat) (h : i < ps.length) : sumI (ps.take (i + 1)) = sumI (ps.take i) + (ps[i]).n := by
 unfold sumI
 rw [List.take_succ_eq_append_getElem h, List.map_append, List.sum_append]
 simp
theorem sumI_le (ps : List PcI) (i : Nat) : sumI (ps.take i) ≤ sumI ps := by
 unfold sumI
 conv => rhs; rw [← List.take_append_drop i ps, List.map_append, List.sum_append]
 omega
theorem allI_take (ps : List PcI) (i : Nat) (h : i < ps.length) : allI (ps.take (i + 1)) = allI (ps.take i) ++ (ps[i]).xs := by
 unfold allI
 rw [List.take_succ_eq_append_getElem h, List.flatMap_append, List.flatMap_cons, List.flatMap_nil, List.append_nil]
theorem allI_one (w : World) (ps : List PcI) (h : ∀ p ∈ ps, PcInI w p) (i : Nat) : ∀ u ∈ allI (ps.take i), u.oneCell' = true := by
 intro u hu
 obtain ⟨p, hp, hx⟩ := List.mem_flatMap.1 hu
 exact (h p (List.mem_of_mem_take hp)).2 u hx
set_option maxRecDepth 100000 in
set_option maxHeartbeats 4000000 in
theorem concatI_any (g o c : Nat) (ps : List PcI) (w : World) (hk : ps.length ≤ 1000) (hc : ∀ i (h : i < ps.length), w.cell? ⟨g, o + i, none⟩ = some (.slice (ps[i]).A (ps[i]).n (ps[i]).c)) (hp : ∀ p ∈ ps, PcInI w p) (hn : sumI ps ≤ 100000) :
  Calls Tryz.prog 162 #[.slice (some ⟨g, o, none⟩) ps.length c] w fun e w' => ∃ A c, e = .returned (.slice A (sumI ps) c) ∧ Own w' w.heap.size 1 (.slice A (sumI ps) c) (sumI ps) (allI ps) ∧ Below w.heap.size w w' := by
 obtain ⟨i0, hi, hz0, hz1, hz2⟩ := info_parts intInfo
 have HC := Lib.hid hc
 have HP := Lib.hid hp
 clear hc hp
 go_enter Tryz.func162, Tryz.ntmps162
 go_wp2_with fail
 go_loopw [3, 11] (fun sv iv wr => ∃ i : Nat, i ≤ ps.length ∧ iv = .int .i64 i ∧ sv = .int .i64 (sumI (ps.take i) : Nat) ∧ w = wr) (fun _ iv _ => ps.length - (intOf iv).toNat)
 case atStart => exact ⟨0, Nat.zero_le _, rfl, by simp [sumI], rfl⟩
 case round =>
  obtain ⟨i, hik, rfl, rfl, rfl⟩ := hrel
  obtain ⟨s, hs⟩ : ∃ s, s = sumI (ps.take i) := ⟨_, rfl⟩
  have hsl := sumI_le ps i
  rw [← hs] at hsl ⊢
  by_cases hlt : i < ps.length
  ·have hcell := HC.out i hlt
   have hst := sumI_take ps i hlt
   have hsl2 := sumI_le ps (i + 1)
   rw [← hs] at hst
   obtain ⟨p, hpe⟩ : ∃ p, p = ps[i] := ⟨_, rfl⟩
   rw [← hpe] at hcell hst
   obtain ⟨m, hm⟩ : ∃ m, m = p.n := ⟨_, rfl⟩
   rw [← hm] at hcell hst
   obtain ⟨s2, hs2⟩ : ∃ s2, s2 = s + m := ⟨_, rfl⟩
   have hsi : (s : Int) + m = (s2 : Nat) := by omega
   have hs2l : s2 ≤ 100000 := by omega
   have h0 : (0 : Int) ≤ s2 := by omega
   have hneg : ¬ (s2 : Int) < 0 := by omega
   have HST := Lib.hid (show sumI (ps.take (i + 1)) = s2 by rw [hst, hs2])
   clear hst hsl2 hs hpe hm hs2
   go_wp2_with fail
   go_roundw
   case rel => exact ⟨i + 1, hlt, by go_num, by rw [HST.out], by first | rfl | trivial⟩
   case measure => simp [intOf]; omega
  ·have hik2 : i = ps.length := by omega
   subst hik2
   rw [List.take_length] at hs
   have HS := Lib.hid hs
   clear hs
   go_wp2_with fail
   refine (growI_any s w (by omega)).mono ?_
   rintro e w1 ⟨A, c1, rfl, ho, hb⟩
   have HO := Lib.hid ho
   have HB := Lib.hid hb
   clear ho hb
   go_wp2_with fail
   go_loopw [6, 27] (fun nv iv wr => ∃ (i : Nat) (A : Option Addr) (c : Nat), i ≤ ps.length ∧ iv = .int .i64 i ∧ nv = .slice A (sumI (ps.take i)) c ∧ Own wr w.heap.size 1 (.slice A (sumI (ps.take i)) c) (sumI (ps.take i)) (allI (ps.take i)) ∧ Below w.heap.size w wr) (fun _ iv _ => ps.length - (intOf iv).toNat)
   case atStart => exact ⟨0, A, c1, Nat.zero_le _, rfl, by simp [sumI], by simpa [sumI, allI] using HO.out, HB.out⟩
   case round =>
    clear HO HB
    obtain ⟨i, A, c1, hik, rfl, rfl, hO, hB⟩ := hrel
    by_cases hlt : i < ps.length
    ·have hcell : wr.cell? ⟨g, o + i, none⟩ = _ := bkeep hB (HC.out i hlt)
     have hpi := HP.out _ (List.getElem_mem hlt)
     have hone := allI_one w ps HP.out i
     have hst := sumI_take ps i hlt
     have hat := allI_take ps i hlt
     have hsl2 := sumI_le ps (i + 1)
     obtain ⟨p, hpe⟩ : ∃ p, p = ps[i] := ⟨_, rfl⟩
     rw [← hpe] at hcell hst hat hpi
     obtain ⟨pA, m, pc, px⟩ := p
     simp only at hcell hst hat hpi
     obtain ⟨hr, h1⟩ := hpi
     simp only at hr h1
     obtain ⟨s, hs⟩ : ∃ s, s = sumI (ps.take i) := ⟨_, rfl⟩
     obtain ⟨X, hX⟩ : ∃ X, X = allI (ps.take i) := ⟨_, rfl⟩
     rw [← hs] at hst hO ⊢
     rw [← hX] at hat hO hone
     have hrb := hr.below hB (Nat.le_refl _)
     have hsrc := hrb.src (P := Tryz.prog) Tryz.underlying119 (by decide) h1 pc
     have hbz := hB.size
     have HST := Lib.hid hst
     have HAT := Lib.hid hat
     have hsm : s + m ≤ 100000 := by omega
     clear hst hat hsl2 hs hX hpe hr hrb
     go_wp2_with (at_builtin; refine wpList_append_S rfl (.tmp 31) (.tmp 32) 119 119 rfl w.heap.size 3 i0 _ 1 8 Tryz.underlying119 hi hz0 hz1 hz2 rfl (by decide) (.slice A s c1) s X rfl hO hone m px hsrc (s + m) rfl (X ++ px) rfl (by unfold maxLen; omega) (by omega) hbz ?_; intro A' c' w4 hown4 hg4 hat4)
     have HO4 := Lib.hid hown4
     have HB4 := Lib.hid (Below.grown hB hg4 hbz fun g hg => (hO.lt g hg).1)
     clear hown4 hg4 hat4 hO hB
     go_roundw
     case rel => exact ⟨i + 1, A', c', hlt, by go_num, by rw [HST.out], by rw [HST.out, HAT.out]; exact HO4.out, HB4.out⟩
     case measure => simp [intOf]; omega
    ·have hik2 : i = ps.length := by omega
     subst hik2
     rw [List.take_length] at hO ⊢
     go_wp2
     go_ret
     exact ⟨A, c1, rfl, hO, hB⟩
end Go.Proofs.YtkegkelaffohjaaGreatDoor
namespace Go.Proofs.YtkegkelaffohjaaGreatDoor
open Go Go.RowKit
theorem u64_mask (n : Nat) (h : n < 4294967296) : bits .and .u64 (n : Int) 4294967295 = (n : Int) := by
 have e : ∀ a : Nat, a < 18446744073709551616 → (BitVec.ofInt 64 (a : Int)).toNat = a := fun a ha => by
  rw [BitVec.ofInt_natCast, BitVec.toNat_ofNat]
  exact Nat.mod_eq_of_lt (by omega)
 show IntKind.u64.wrap ((BitVec.ofInt 64 (n : Int) &&& BitVec.ofInt 64 ((4294967295 : Nat) : Int)).toNat : Int) = _
 rw [BitVec.toNat_and, e _ (by omega), e _ (by omega), show (4294967295 : Nat) = 2 ^ 32 - 1 from rfl, Nat.and_two_pow_sub_one_eq_mod, Nat.mod_eq_of_lt (by omega), IntWalk.u64_in _ (by omega)]
theorem mul64_small (x y p : Nat) (hp : p = x * y) (hx : x < 65536) (hy : y < 65536) (w : World) :
  Calls Tryz.prog 188 #[.int .u64 x, .int .u64 y] w fun e w' => e = .returned (.tuple #[.int .u64 0, .int .u64 p]) ∧ w' = w := by
 have hpl : p ≤ 65535 * 65535 := by rw [hp]; exact Nat.mul_le_mul (by omega) (by omega)
 have a1 := u64_mask x (by omega)
 have a2 := u64_mask y (by omega)
 have a3 := u64_mask 0 (by omega)
 have b1 : (x : Int) / 4294967296 = 0 := by omega
 have b2 : (y : Int) / 4294967296 = 0 := by omega
 have c1 : IntKind.u64.wrap ((x : Int) * y) = (p : Nat) := by rw [hp, Int.natCast_mul]; exact IntWalk.u64_in _ (by rw [← Int.natCast_mul, ← hp]; omega)
 have b3 : (p : Int) / 4294967296 = 0 := by omega
 clear hp
 go_enter Tryz.func188, Tryz.ntmps188
 go_wp2
 go_ret2
 exact ⟨rfl, rfl⟩
theorem mul_small (x y p : Nat) (hp : p = x * y) (hx : x < 65536) (hy : y < 65536) (w : World) :
  Calls Tryz.prog 180 #[.int .u64 x, .int .u64 y] w fun e w' => e = .returned (.tuple #[.int .u64 0, .int .u64 p]) ∧ w' = w := by
 have q1 : IntKind.u64.wrap (x : Int) = x := IntWalk.u64_in _ (by omega)
 have q2 : IntKind.u64.wrap (y : Int) = y := IntWalk.u64_in _ (by omega)
 have hpl : p ≤ 65535 * 65535 := by rw [hp]; exact Nat.mul_le_mul (by omega) (by omega)
 have q3 : IntKind.u64.wrap (p : Int) = p := IntWalk.u64_in _ (by omega)
 have HP := Lib.hid hp
 clear hp
 go_enter Tryz.func180, Tryz.ntmps180
 go_wp2_with fail
 refine (mul64_small x y p HP.out hx hy _).mono ?_
 rintro e w1 ⟨rfl, rfl⟩
 go_wp2
 go_ret2
 exact ⟨rfl, rfl⟩
def repCells (a : Int) (N m : Nat) : List Value := ints (List.replicate m a ++ List.replicate (N - m) 0)
theorem repCells_len (a : Int) (N m : Nat) (h : m ≤ N) : (repCells a N m).length = N := by unfold repCells; rw [ints_length, List.length_append, List.length_replicate, List.length_replicate]; omega
theorem repCells_get (a : Int) (N m j : Nat) (h : j < N) : (repCells a N m)[j]? = some (.int .i64 (if j < m then a else 0)) := by
 unfold repCells ints
 rw [List.getElem?_map, List.getElem?_append, List.length_replicate]
 by_cases e : j < m
 ·rw [if_pos e, List.getElem?_replicate, if_pos e, if_pos e]; rfl
 ·rw [if_neg e, List.getElem?_replicate, if_pos (by omega), if_neg e]; rfl
theorem rep_copied {w : World} {base g N m K : Nat} {a : Int} (h : Own w base 1 (.slice (some ⟨g, 0, none⟩) N N) N (repCells a N m)) (hmK : m + K ≤ N) :
  Own (w.setCells g m (ints (List.replicate K a))) base 1 (.slice (some ⟨g, 0, none⟩) N N) N (repCells a N (m + K)) := by
 obtain ⟨_, _, hx, ht⟩ := h.room
 have hl : (ints (List.replicate K a)).length = K := by rw [ints_length, List.length_replicate]
 refine h.turn (Nat.le_refl _) (by rw [repCells_len _ _ _ (by omega), Nat.mul_one]) (by rw [size_setCells]) (fun j hj => ?_) (fun j hj => World.isSome_setCells _ _ _ _ _ (ht j hj).1) (fun a => by rw [World.frozen?_setCells])
 rw [Nat.mul_one] at hj
 rw [cell_setCells (fun t h' => by have := (ht (m + t) (by omega)).1; rwa [Nat.zero_add] at this), hl, repCells_get _ _ _ _ hj]
 by_cases e : m ≤ 0 + j ∧ 0 + j < m + K
 ·rw [if_pos e, if_pos (by omega)]
  unfold ints
  rw [List.getElem?_map, List.getElem?_replicate, if_pos (by omega)]
  rfl
 ·rw [if_neg e, hx j (by omega), repCells_get _ _ _ _ hj]
  by_cases e2 : j < m
  ·rw [if_pos e2, if_pos (by omega)]
  ·rw [if_neg e2, if_neg (by omega)]
theorem run_copy_ints (w : World) (ty : TypeId) (b o dLen dCap K : Nat) (ad : Addr) (sLen sCap : Nat) (a : Int) (hK : Nat.min sLen dLen = K)
  (hsrc : ∀ j, j < K → w.cell? (ad.add j) = some (.int .i64 a)) (hc : ∀ j, j < K → (w.cell? ⟨b, o + j, none⟩).isSome = true) (hf : ∀ j, j < K → w.frozen? ⟨b, o + j, none⟩ = false) :
  (Builtin.copy_ #[119, 119] ty #[.slice (some ⟨b, o, none⟩) dLen dCap, .slice (some ad) sLen sCap]).run Tryz.prog w = .ok (.int .i64 K) (w.setCells b o (ints (List.replicate K a))) := by
 obtain ⟨i0, hi, hz0, hz1, hz2⟩ := info_parts intInfo
 have hl : (ints (List.replicate K a)).length = K := by rw [ints_length, List.length_replicate]
 have := run_copy_cells_n (P := Tryz.prog) w 119 119 ty 3 i0 1 b o dLen dCap ad sLen sCap (ints (List.replicate K a)) Tryz.underlying119 hi hz1 (by rw [hl, hK, Nat.mul_one]) (fun j v hv => by
  unfold ints at hv
  rw [List.getElem?_map, List.getElem?_replicate] at hv
  split at hv
  ·rename_i hj
   rw [hsrc j hj]
   exact hv
  ·cases hv) (fun j hj => hc j (by omega)) (fun j hj => hf j (by omega)) (ints_one _)
 rw [this, hK]
 rfl
theorem rep_made {w w2 : World} {a : Int} {N g : Nat} (h : w2.ownsRow w.heap.size 3 1 (.slice (some ⟨g, 0, none⟩) N N) N (madeCells (Value.int .i64 0).cells (N * 1)).toList) : Own w2 w.heap.size 1 (.slice (some ⟨g, 0, none⟩) N N) N (repCells a N 0) := by
 have hown := Own.of_row h
 rw [made_same _ (.int .i64 0) (by decide) (by intro j hj; have : j = 0 := (by simp [Value.cells] at hj; omega); subst this; rfl), Nat.mul_one] at hown
 have : List.replicate N (Value.int .i64 0) = repCells a N 0 := by unfold repCells ints; simp
 rw [this] at hown
 exact hown
set_option maxRecDepth 100000 in
set_option maxHeartbeats 2000000 in
theorem repeat_any (g0 o0 c0 N : Nat) (a : Int) (w : World) (h0 : w.cell? ⟨g0, o0, none⟩ = some (.int .i64 a)) (hN : 1 ≤ N) (hN2 : N ≤ 1000) :
  Calls Tryz.prog 163 #[.slice (some ⟨g0, o0, none⟩) 1 c0, .int .i64 N] w fun e w' => ∃ A c, e = .returned (.slice A N c) ∧ Own w' w.heap.size 1 (.slice A N c) N (ints (List.replicate N a)) ∧ Below w.heap.size w w' := by
 obtain ⟨i0, hi, hz0, hz1, hz2⟩ := info_parts intInfo
 have q1 : IntKind.u64.wrap (N : Int) = N := IntWalk.u64_in _ (by omega)
 have q2 : IntKind.i64.wrap (N : Int) = N := IntWalk.i64_in _ (by omega)
 have q3 : IntKind.u64.wrap (1 : Int) = 1 := by decide
 go_enter Tryz.func163, Tryz.ntmps163
 go_wp2_with fail
 refine (mul_small 1 N N (by omega) (by omega) (by omega) _).mono ?_
 rintro e w1 ⟨rfl, rfl⟩
 have g1 : ¬ (9223372036854775807 : Int) < N := by omega
 have gl0 := cell_lt h0
 go_wp2_with (refine wpList_make_full _ rfl (.tmp 29) (.tmp 29) 119 rfl w1.heap.size 3 i0 _ 1 Tryz.underlying119 hi hz0 hz1 .i64 .i64 _ _ N rfl rfl rfl rfl (by rw [hz2]; omega) (by unfold maxLen; omega) (Nat.le_refl _) ?_; intro w2 hrow2 hg2; have hown : Own w2 w1.heap.size 1 (.slice (some ⟨w1.heap.size, 0, none⟩) N N) N (repCells a N 0) := rep_made hrow2; have h2 : w2.cell? ⟨g0, o0, none⟩ = some (.int .i64 a) := (hg2.cell_far ⟨g0, o0, none⟩ gl0 (by simp)).trans h0; have hcp := fun ty => run_copy_ints w2 ty w1.heap.size 0 N N 1 ⟨g0, o0, none⟩ 1 c0 a (Nat.min_eq_left hN) (fun j hj => (by have : j = 0 := (by omega); subst this; exact h2)) (fun j hj => (hown.room.2.2.2 j (by omega)).1) (fun j hj => (hown.room.2.2.2 j (by omega)).2))
 have hb2 : Below w1.heap.size w1 w2 := Below.grown (Below.refl _ _) hg2 (Nat.le_refl _) (fun g hg => by cases hg)
 have hown1 : Own (w2.setCells w1.heap.size 0 (ints [a])) w1.heap.size 1 (.slice (some ⟨w1.heap.size, 0, none⟩) N N) N (repCells a N (0 + 1)) := rep_copied hown (m := 0) (K := 1) (by omega)
 have hb3 := Below.setCells_ hb2 (Nat.le_refl w1.heap.size) 0 (ints [a])
 rw [Nat.zero_add] at hown1
 have HO := Lib.hid hown1
 have HB := Lib.hid hb3
 clear hown hown1 hb2 hb3 hg2 hrow2 h2 hcp
 obtain ⟨w3, hw3⟩ : ∃ w3, w3 = w2.setCells w1.heap.size 0 (ints [a]) := ⟨_, rfl⟩
 rw [← hw3] at HO HB ⊢
 obtain ⟨g, hg⟩ : ∃ g, g = w1.heap.size := ⟨_, rfl⟩
 rw [← hg]
 replace HO := Lib.hid (show Own w3 w1.heap.size 1 (.slice (some ⟨g, 0, none⟩) N N) N (repCells a N 1) by rw [hg]; exact HO.out)
 have hge : w1.heap.size ≤ g := by omega
 clear hw3 hg
 go_loopw [8] (fun nv wr => ∃ m : Nat, nv = .int .i64 m ∧ 1 ≤ m ∧ m ≤ N ∧ Own wr w1.heap.size 1 (.slice (some ⟨g, 0, none⟩) N N) N (repCells a N m) ∧ Below w1.heap.size w1 wr) (fun nv _ => N - (intOf nv).toNat)
 case atStart => exact ⟨1, rfl, Nat.le_refl _, hN, HO.out, HB.out⟩
 case round =>
  clear HO HB
  obtain ⟨m, rfl, hm1, hmN, hO, hB⟩ := hrel
  by_cases hlt : m < N
  ·obtain ⟨K, hK⟩ : ∃ K, K = min m (N - m) := ⟨_, rfl⟩
   obtain ⟨M, hM⟩ : ∃ M, M = m + K := ⟨_, rfl⟩
   have hKi : (m : Int) + K = (M : Nat) := by omega
   have hroom := hO.room
   have hcp := fun ty => run_copy_ints wr.drew ty g m (N - m) (N - m) K ⟨g, 0, none⟩ m N a (by rw [hK]) (fun j hj => by
    rw [add_lit]
    show wr.cell? _ = _
    rw [hroom.2.2.1 j (by omega), repCells_get _ _ _ _ (by omega), if_pos (by omega)]) (fun j hj => by have := (hroom.2.2.2 (m + j) (by omega)).1; rwa [Nat.zero_add] at this) (fun j hj => by have := (hroom.2.2.2 (m + j) (by omega)).2; rwa [Nat.zero_add] at this)
   have hne : ¬ N = m := by omega
   have hmle : m ≤ N := by omega
   have HO2 := Lib.hid (rep_copied hO.drew (m := m) (K := K) (by omega))
   have HB2 := Lib.hid (Below.setCells_ hB.drew hge m (ints (List.replicate K a)))
   have HM := Lib.hid (show M = m + K ∧ 1 ≤ K ∧ m + K ≤ N from ⟨hM, by omega, by omega⟩)
   have hMb : M ≤ 1000 := by omega
   rw [← hM] at HO2
   clear hroom hO hB hK hM
   go_wp2_with fail
   go_region
   clear hcp
   go_wp2
   go_roundw
   case rel =>
    obtain ⟨m1, m2, m3⟩ := HM.out
    exact ⟨M, by go_num, by omega, by omega, HO2.out, HB2.out⟩
   case measure => have := HM.out; simp [intOf]; omega
  ·have hm : m = N := by omega
   subst hm
   have he : repCells a m m = ints (List.replicate m a) := by unfold repCells; simp
   rw [he] at hO
   go_wp2
   go_ret
   exact ⟨_, _, rfl, hO, hB⟩
end Go.Proofs.YtkegkelaffohjaaGreatDoor
namespace Go.Proofs.YtkegkelaffohjaaGreatDoor
open Go Go.RowKit
theorem fixed_nats : ints (List.replicate 144 8) ++ ints (List.replicate 112 9) ++ ints (List.replicate 24 7) ++ ints (List.replicate 8 8) = nats Inf.fixedL := by
 unfold Inf.fixedL ints nats
 simp only [List.map_append, List.map_replicate]
 rfl
theorem fixedL_length : Inf.fixedL.length = 288 := by unfold Inf.fixedL; simp only [List.length_append, List.length_replicate]
theorem Own.rd {w : World} {base size n c : Nat} {A : Option Addr} {xs : List Value} (h : Own w base size (.slice A n c) n xs) : Reads w w.heap.size size A n xs := h.reads.2
set_option maxRecDepth 100000 in
set_option maxHeartbeats 2000000 in
theorem fixedLengths_any (w : World) :
  Calls Tryz.prog 142 #[] w fun e w' => ∃ A c, e = .returned (.slice A 288 c) ∧ Own w' w.heap.size 1 (.slice A 288 c) 288 (nats Inf.fixedL) ∧ Below w.heap.size w w' := by
 go_enter Tryz.func142, Tryz.ntmps142
 go_wp2_with fail
 have HBW0 := Lib.hid (Below.refl w.heap.size w)
 have HB0 := Lib.hid (HBW0.out.alloc HBW0.out.size (.cells #[.int .i64 8] 3))
 have hc0 : (w.alloc (.cells #[.int .i64 8] 3)).cell? ⟨w.heap.size, 0, none⟩ = some (.int .i64 8) := by rw [(Blk.new w 3 #[.int .i64 8] rfl).cell]; rfl
 refine (repeat_any _ 0 1 144 8 _ hc0 (by omega) (by omega)).mono ?_
 rintro e w1 ⟨A0, c0, rfl, ho0, hb0⟩
 have HBW1 := Lib.hid (HB0.out.trans (hb0.mono HB0.out.size))
 have HR0 := Lib.hid ho0.rd
 clear hc0 ho0 hb0 HB0 HBW0
 go_wp2_with fail
 have HB1 := Lib.hid (HBW1.out.alloc HBW1.out.size (.cells #[.int .i64 9] 3))
 have hc1 : (w1.alloc (.cells #[.int .i64 9] 3)).cell? ⟨w1.heap.size, 0, none⟩ = some (.int .i64 9) := by rw [(Blk.new w1 3 #[.int .i64 9] rfl).cell]; rfl
 refine (repeat_any _ 0 1 112 9 _ hc1 (by omega) (by omega)).mono ?_
 rintro e w2 ⟨A1, c1, rfl, ho1, hb1⟩
 have HBW2 := Lib.hid (HB1.out.trans (hb1.mono HB1.out.size))
 replace HR0 := Lib.hid ((HR0.out.alloc (Nat.le_refl _) (.cells #[.int .i64 9] 3)).below hb1 (by simp) |>.more (Nat.le_trans (by simp) hb1.size))
 have HR1 := Lib.hid ho1.rd
 clear hc1 ho1 hb1 HB1 HBW1
 go_wp2_with fail
 have HB2 := Lib.hid (HBW2.out.alloc HBW2.out.size (.cells #[.int .i64 7] 3))
 have hc2 : (w2.alloc (.cells #[.int .i64 7] 3)).cell? ⟨w2.heap.size, 0, none⟩ = some (.int .i64 7) := by rw [(Blk.new w2 3 #[.int .i64 7] rfl).cell]; rfl
 refine (repeat_any _ 0 1 24 7 _ hc2 (by omega) (by omega)).mono ?_
 rintro e w3 ⟨A2, c2, rfl, ho2, hb2⟩
 have HBW3 := Lib.hid (HB2.out.trans (hb2.mono HB2.out.size))
 replace HR0 := Lib.hid ((HR0.out.alloc (Nat.le_refl _) (.cells #[.int .i64 7] 3)).below hb2 (by simp) |>.more (Nat.le_trans (by simp) hb2.size))
 replace HR1 := Lib.hid ((HR1.out.alloc (Nat.le_refl _) (.cells #[.int .i64 7] 3)).below hb2 (by simp) |>.more (Nat.le_trans (by simp) hb2.size))
 have HR2 := Lib.hid ho2.rd
 clear hc2 ho2 hb2 HB2 HBW2
 go_wp2_with fail
 have HB3 := Lib.hid (HBW3.out.alloc HBW3.out.size (.cells #[.int .i64 8] 3))
 have hc3 : (w3.alloc (.cells #[.int .i64 8] 3)).cell? ⟨w3.heap.size, 0, none⟩ = some (.int .i64 8) := by rw [(Blk.new w3 3 #[.int .i64 8] rfl).cell]; rfl
 refine (repeat_any _ 0 1 8 8 _ hc3 (by omega) (by omega)).mono ?_
 rintro e w4 ⟨A3, c3, rfl, ho3, hb3⟩
 have HBW4 := Lib.hid (HB3.out.trans (hb3.mono HB3.out.size))
 replace HR0 := Lib.hid ((HR0.out.alloc (Nat.le_refl _) (.cells #[.int .i64 8] 3)).below hb3 (by simp) |>.more (Nat.le_trans (by simp) hb3.size))
 replace HR1 := Lib.hid ((HR1.out.alloc (Nat.le_refl _) (.cells #[.int .i64 8] 3)).below hb3 (by simp) |>.more (Nat.le_trans (by simp) hb3.size))
 replace HR2 := Lib.hid ((HR2.out.alloc (Nat.le_refl _) (.cells #[.int .i64 8] 3)).below hb3 (by simp) |>.more (Nat.le_trans (by simp) hb3.size))
 have HR3 := Lib.hid ho3.rd
 clear hc3 ho3 hb3 HB3 HBW3
 go_wp2_with fail
 have HB4 := Lib.hid (HBW4.out.alloc HBW4.out.size (.cells #[.slice A0 144 c0, .slice A1 112 c1, .slice A2 24 c2, .slice A3 8 c3] 119))
 have hblk := Blk.new w4 119 #[.slice A0 144 c0, .slice A1 112 c1, .slice A2 24 c2, .slice A3 8 c3] rfl
 have key : ∀ {A : Option Addr} {n : Nat} {xs : List Value}, Reads w4 w4.heap.size 1 A n xs → Reads (w4.alloc (.cells #[.slice A0 144 c0, .slice A1 112 c1, .slice A2 24 c2, .slice A3 8 c3] 119)) (w4.alloc (.cells #[.slice A0 144 c0, .slice A1 112 c1, .slice A2 24 c2, .slice A3 8 c3] 119)).heap.size 1 A n xs := fun h => (h.alloc (Nat.le_refl _) _).more (by simp)
 refine (concatI_any w4.heap.size 0 4 [⟨A0, 144, c0, ints (List.replicate 144 8)⟩, ⟨A1, 112, c1, ints (List.replicate 112 9)⟩, ⟨A2, 24, c2, ints (List.replicate 24 7)⟩, ⟨A3, 8, c3, ints (List.replicate 8 8)⟩] _ (by simp) (fun i h => ?_) (fun p hp => ?_) (by simp [sumI])).mono ?_
 ·rw [hblk.cell]
  match i, h with
  | 0, _ => rfl
  | 1, _ => rfl
  | 2, _ => rfl
  | 3, _ => rfl
 ·simp only [List.mem_cons, List.not_mem_nil, or_false] at hp
  rcases hp with rfl | rfl | rfl | rfl
  ·exact ⟨key HR0.out, ints_one _⟩
  ·exact ⟨key HR1.out, ints_one _⟩
  ·exact ⟨key HR2.out, ints_one _⟩
  ·exact ⟨key HR3.out, ints_one _⟩
 ·rintro e w5 ⟨A, c, rfl, ho, hb⟩
  have HO := Lib.hid ho
  have HB := Lib.hid (HB4.out.trans (hb.mono HB4.out.size))
  clear ho hb key hblk HB4 HR0 HR1 HR2 HR3
  go_wp2
  go_ret
  refine ⟨A, c, rfl, ?_, HB.out⟩
  have h := HO.out
  have e1 : allI [⟨A0, 144, c0, ints (List.replicate 144 8)⟩, ⟨A1, 112, c1, ints (List.replicate 112 9)⟩, ⟨A2, 24, c2, ints (List.replicate 24 7)⟩, ⟨A3, 8, c3, ints (List.replicate 8 8)⟩] = nats Inf.fixedL := by
   rw [← fixed_nats]
   unfold allI
   simp only [List.flatMap_cons, List.flatMap_nil, List.append_nil, List.append_assoc]
  rw [e1] at h
  exact (show Own w5 _ 1 (.slice A 288 c) 288 _ from h).mono (by have := HBW4.out.size; simp; omega)
end Go.Proofs.YtkegkelaffohjaaGreatDoor
