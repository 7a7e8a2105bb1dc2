/- huff.words, Valid: the walks. The tables of inflate in memory; slices that read so, whatever else is written. huff.Valid: the walk. huff.Codes: the walk. huff.Read: the walk. -/
import Derived.Test.YtkegkelaffohjaaGreatDoorQCFilmTwiceBitT
import Derived.Test.YtkegkelaffohjaaGreatDoorKCFilmTwice4
namespace Go.Proofs.YtkegkelaffohjaaGreatDoor
open Go Go.RowKit
def nats (l : List Nat) : List Value := l.map fun n : Nat => Value.int .i64 (n : Int)
theorem nats_length (l : List Nat) : (nats l).length = l.length := by simp [nats]
theorem nats_at (l : List Nat) (k : Nat) (hk : k < l.length) : (nats l)[k]? = some (.int .i64 l[k]) := by simp [nats, hk]
def counts16 (l : List Nat) : List Value := (List.range 16).map fun n : Nat => Value.int .i64 (l.count n : Nat)
theorem counts16_at (l : List Nat) (n : Nat) (h : n < 16) : (counts16 l)[n]? = some (.int .i64 (l.count n)) := by
 unfold counts16
 rw [List.getElem?_map, List.getElem?_range h]
 rfl
theorem counts16_snoc (l : List Nat) (x : Nat) (h : x < 16) : (counts16 l).set x (.int .i64 (l.count x + 1 : Nat)) = counts16 (l ++ [x]) := by
 refine List.ext_getElem? fun k => ?_
 have hl : ∀ l, (counts16 l).length = 16 := fun l => by unfold counts16; rw [List.length_map, List.length_range]
 rw [List.getElem?_set, hl]
 rcases Nat.lt_or_ge k 16 with hk | hk
 ·rw [counts16_at _ _ hk, counts16_at _ _ hk, List.count_append]
  by_cases e : x = k
  ·subst e
   rw [if_pos rfl, if_pos h]
   simp
  ·rw [if_neg e]
   have : List.count k [x] = 0 := by rw [List.count_eq_zero]; simp; omega
   rw [this]
   rfl
 ·rw [if_neg (by omega), List.getElem?_eq_none (by rw [hl]; exact hk), List.getElem?_eq_none (by rw [hl]; exact hk)]
theorem zeroCounts : ((#[.int .i64 0, .int .i64 0, .int .i64 0, .int .i64 0, .int .i64 0, .int .i64 0, .int .i64 0, .int .i64 0, .int .i64 0, .int .i64 0, .int .i64 0, .int .i64 0, .int .i64 0, .int .i64 0, .int .i64 0, .int .i64 0] : Array Value)) = (counts16 []).toArray := by kernel_rfl
theorem counts16_length (l : List Nat) : (counts16 l).length = 16 := by unfold counts16; rw [List.length_map, List.length_range]
theorem counts16_one (l : List Nat) : ∀ u ∈ counts16 l, u.oneCell' = true := by
 intro u hu
 obtain ⟨n, _, rfl⟩ := List.mem_map.1 hu
 rfl
theorem Blk.range {w : World} {g : Nat} {T : TypeId} {cs : List Value} (h : Blk w g T cs.toArray) : w.rangeAt g 0 cs := fun j v hv => by
 rw [Nat.zero_add, h.cell]
 simpa using hv
theorem Blk.thereN {w : World} {g : Nat} {T : TypeId} {cs : List Value} (h : Blk w g T cs.toArray) (n : Nat) (hn : n ≤ cs.length) : w.there g 0 n := fun j hj => by
 rw [Nat.zero_add]
 refine ⟨?_, h.free j⟩
 rw [h.cell]
 simp
 omega
set_option maxRecDepth 100000 in
set_option maxHeartbeats 1000000 in
theorem words_any (B n c : Nat) (A : Option Addr) (l : List Nat) (w : World) (hr : Reads w B 1 A n (nats l)) (hB : B ≤ w.heap.size) (h15 : ∀ x ∈ l, x ≤ 15) (hm : l.length ≤ 1000) :
  Calls Tryz.prog 165 #[.slice A n c] w fun e w' => e = .returned (.agg (counts16 l).toArray) ∧ Below w.heap.size w w' := by
 have hn : n = l.length := by have := hr.1; rw [nats_length] at this; omega
 subst hn
 go_enter Tryz.func165, Tryz.ntmps165
 go_wp2_with fail
 have hC : Blk (w.alloc (.cells #[.int .i64 0, .int .i64 0, .int .i64 0, .int .i64 0, .int .i64 0, .int .i64 0, .int .i64 0, .int .i64 0, .int .i64 0, .int .i64 0, .int .i64 0, .int .i64 0, .int .i64 0, .int .i64 0, .int .i64 0, .int .i64 0] 254)) w.heap.size 254 (counts16 []).toArray := by
  rw [← zeroCounts]
  exact Blk.new w _ _ rfl
 have hb0 := (Below.refl w.heap.size w).alloc (Nat.le_refl _) (.cells #[.int .i64 0, .int .i64 0, .int .i64 0, .int .i64 0, .int .i64 0, .int .i64 0, .int .i64 0, .int .i64 0, .int .i64 0, .int .i64 0, .int .i64 0, .int .i64 0, .int .i64 0, .int .i64 0, .int .i64 0, .int .i64 0] 254)
 generalize w.alloc (.cells #[.int .i64 0, .int .i64 0, .int .i64 0, .int .i64 0, .int .i64 0, .int .i64 0, .int .i64 0, .int .i64 0, .int .i64 0, .int .i64 0, .int .i64 0, .int .i64 0, .int .i64 0, .int .i64 0, .int .i64 0, .int .i64 0] 254) = w1 at *
 go_loopw [7] (fun i wr => ∃ j : Nat, j ≤ l.length ∧ i = .int .i64 j ∧ Blk wr w.heap.size 254 (counts16 (l.take j)).toArray ∧ Below w.heap.size w wr) (fun i _ => l.length - (intOf i).toNat)
 case atStart => exact ⟨0, Nat.zero_le _, rfl, by simpa using hC, hb0⟩
 case round =>
  obtain ⟨j, hj, rfl, hBj, hbj⟩ := hrel
  clear hC hb0
  by_cases hlt : j < l.length
  ·obtain ⟨ga, oa, rfl, hga⟩ := hr.addr (by omega)
   have hcell := (hr.below hbj hB).cell rfl j (by rw [Nat.mul_one]; exact hlt)
   rw [nats_at _ _ hlt] at hcell
   obtain ⟨x, hx⟩ : ∃ x, x = l[j] := ⟨_, rfl⟩
   have hx15 : x ≤ 15 := by rw [hx]; exact h15 _ (List.getElem_mem hlt)
   rw [← hx] at hcell
   obtain ⟨y, hy⟩ : ∃ y, y = (l.take j).count x := ⟨_, rfl⟩
   have hyl : y ≤ 1000 := by
    have := List.count_le_length (a := x) (l := l.take j)
    rw [List.length_take] at this
    omega
   have hc1 : wr.cell? ⟨w.heap.size, x, none⟩ = some (.int .i64 y) := by
    rw [hBj.cell, hy]
    have := counts16_at (l.take j) x (by omega)
    simpa using this
   have hf1 := hBj.free x
   have hset := hBj.set_ x (.int .i64 (y + 1))
   have hsn := counts16_snoc (l.take j) x (by omega)
   rw [hx, ← List.take_succ_eq_append_getElem hlt, ← hx, ← hy] at hsn
   have HSN := Lib.hid hsn
   have HX := Lib.hid hx
   have HY := Lib.hid hy
   clear hsn hx hy
   go_wp2_with fail
   go_roundw
   case rel =>
    refine ⟨j + 1, hlt, by go_num, ?_, hbj.setCell (p := ⟨w.heap.size, x, none⟩) (Nat.le_refl _) _⟩
    rw [← HSN.out]
    simpa using hset
   case measure => simp [intOf]; omega
  ·have hj2 : j = l.length := by omega
   subst hj2
   rw [List.take_length] at hBj
   have hsz : (Tryz.prog.info? 254).map (·.size) = some (counts16 l).length := by rw [counts16_length]; kernel_rfl
   have hth := hBj.thereN 16 (by rw [counts16_length]; exact Nat.le_refl _)
   have hth2 : wr.there w.heap.size 0 (counts16 l).toArray.size := by simpa [counts16_length] using hth
   have hsz2 : (Tryz.prog.info? 254).map (·.size) = some (counts16 l).toArray.size := by simpa using hsz
   have hra := World.rangeAt_setCells_same wr w.heap.size 0 (counts16 l) (by rw [counts16_length]; exact hth)
   have hc16 : ∀ k, k < 16 → (wr.setCells w.heap.size 0 (counts16 l)).cell? ⟨w.heap.size, k, none⟩ = some (.int .i64 (l.count k)) := fun k hk => by
    have := hra k _ (counts16_at l k hk)
    rwa [Nat.zero_add] at this
   (repeat (first
    | (refine wpList_load_mid rfl 254 (.tmp 2) rfl w.heap.size 0 rfl (counts16 l) _ hBj.range Tryz.underlying254 rfl hsz ?_)
    | (refine wpList_store_mid rfl 254 (.tmp 2) (.tmp 17) rfl w.heap.size 0 (counts16 l).toArray rfl rfl hth2 hsz2 (all_oneCell_toArray (counts16_one l)) ?_)
    | go_values | go_skip | go_guarded | go_step | go_upon | (simp only at *; go_simp) | (go_values <;> (try go_simp)) | (go_ite <;> go_prune <;> (try go_simp))))
   (try simp only [Exit.then])
   refine bodyPost_ret (v := .agg (counts16 l).toArray) (by simp [results, Tryz.results165, go_sem, hc16]; rfl) rfl ⟨rfl, ?_⟩
   exact Below.setCells_ hbj (Nat.le_refl _) _ _
end Go.Proofs.YtkegkelaffohjaaGreatDoor
namespace Go.Proofs.YtkegkelaffohjaaGreatDoor
open Go Go.RowKit
def Vals (w : World) (size : Nat) (v : Value) (n : Nat) (xs : List Value) : Prop := ∃ A c, v = .slice A n c ∧ Reads w w.heap.size size A n xs
section
variable {w w' : World} {size n : Nat} {v : Value} {xs : List Value} {S : Nat → Prop}
theorem Vals.keeps (h : Vals w size v n xs) (k : Keeps S w w') (hn : ∀ x, v.ownBlock = some x → ¬ S x) : Vals w' size v n xs := by
 obtain ⟨A, c, rfl, h1, h2⟩ := h
 refine ⟨A, c, rfl, h1, fun hp => ?_⟩
 obtain ⟨b, off, rfl, hb, hc⟩ := h2 hp
 refine ⟨b, off, rfl, Nat.lt_of_lt_of_le hb k.size, fun j u hu => ?_⟩
 rw [World.cell?_of_block (a := ⟨b, off + j, none⟩) (k.block b hb (hn b rfl))]
 exact hc j u hu
theorem Vals.below (h : Vals w size v n xs) (hb : Below w.heap.size w w') : Vals w' size v n xs :=
 h.keeps (S := fun _ => False) (Keeps.of_below hb fun _ hg _ => hg) (fun _ _ hx => hx)
theorem Vals.of_own {base : Nat} (h : Own w base size v n xs) : Vals w size v n xs := by
 obtain ⟨A, c, rfl, _, hr⟩ := h.form
 exact ⟨A, c, rfl, hr⟩
end
structure Tabs (w : World) : Prop where
 lens : Reads w 15 1 (some ⟨11, 0, none⟩) 29 (nats Inf.Lens)
 lenBits : Reads w 15 1 (some ⟨12, 0, none⟩) 29 (nats Inf.LenBits)
 dists : Reads w 15 1 (some ⟨13, 0, none⟩) 30 (nats Inf.Dists)
 distBits : Reads w 15 1 (some ⟨14, 0, none⟩) 30 (nats Inf.DistBits)
 order : Reads w 15 1 (some ⟨10, 0, none⟩) 19 (nats Inf.Order)
section
variable {w w' : World} {S : Nat → Prop}
theorem Tabs.below {B : Nat} (h : Tabs w) (hb : Below B w w') (hB : 15 ≤ B) : Tabs w' :=
 ⟨h.lens.below hb hB, h.lenBits.below hb hB, h.dists.below hb hB, h.distBits.below hb hB, h.order.below hb hB⟩
theorem Tabs.keeps (h : Tabs w) (k : Keeps S w w') (hB : 15 ≤ w.heap.size) (hn : ∀ g, g < 15 → ¬ S g) : Tabs w' :=
 ⟨h.lens.keeps k hB hn, h.lenBits.keeps k hB hn, h.dists.keeps k hB hn, h.distBits.keeps k hB hn, h.order.keeps k hB hn⟩
theorem Tabs.drew (h : Tabs w) : Tabs w.drew := ⟨h.lens, h.lenBits, h.dists, h.distBits, h.order⟩
end
end Go.Proofs.YtkegkelaffohjaaGreatDoor
namespace Go.Proofs.YtkegkelaffohjaaGreatDoor
open Go Go.RowKit
theorem validLow_any (n : Nat) (w : World) (hn : n ≤ 15) :
  Calls Tryz.prog 181 #[.int .i64 n] w fun e w' => e = .returned (.bool false) ∧ w' = w := by
 have h1 : ¬ (n : Int) < 0 := by omega
 have h2 : ¬ (15 : Int) < n := by omega
 go_enter Tryz.func181, Tryz.ntmps181
 go_wp2
 go_ret
 exact ⟨by simp, rfl⟩
set_option maxRecDepth 100000 in
theorem indexLow_any (B n c : Nat) (A : Option Addr) (l : List Nat) (w : World) (hr : Reads w B 1 A n (nats l)) (h15 : ∀ x ∈ l, x ≤ 15) (hm : l.length ≤ 1000) :
  Calls Tryz.prog 182 #[.slice A n c, .func (.func 181) #[] #[]] w fun e w' => e = .returned (.int .i64 (-1)) ∧ w' = w := by
 have hn : n = l.length := by have := hr.1; rw [nats_length] at this; omega
 subst hn
 go_enter Tryz.func182, Tryz.ntmps182
 go_wp2_with fail
 go_loop [8] (fun i => ∃ k : Nat, k ≤ l.length ∧ i = .int .i64 k) (fun i => l.length - (intOf i).toNat)
 case atStart => exact ⟨0, Nat.zero_le _, rfl⟩
 case round =>
  obtain ⟨k, hk, rfl⟩ := hrel
  by_cases hlt : k < l.length
  ·obtain ⟨ga, oa, rfl, hga⟩ := hr.addr (by omega)
   have hcell := hr.cell rfl k (by rw [Nat.mul_one]; exact hlt)
   rw [nats_at _ _ hlt] at hcell
   have hx15 := h15 _ (List.getElem_mem hlt)
   obtain ⟨x, hx⟩ : ∃ x, x = l[k] := ⟨_, rfl⟩
   rw [← hx] at hcell hx15
   clear hx
   go_wp2_with fail
   refine (validLow_any x _ hx15).mono ?_
   rintro e w1 ⟨rfl, rfl⟩
   go_wp2_with fail
   go_round
   case rel => exact ⟨k + 1, hlt, by go_num⟩
   case measure => simp [intOf]; omega
  ·go_wp2_with fail
   go_ret
   exact ⟨rfl, rfl⟩
theorem containsLow_any (B n c : Nat) (A : Option Addr) (l : List Nat) (w : World) (hr : Reads w B 1 A n (nats l)) (h15 : ∀ x ∈ l, x ≤ 15) (hm : l.length ≤ 1000) :
  Calls Tryz.prog 168 #[.slice A n c, .func (.func 181) #[] #[]] w fun e w' => e = .returned (.bool false) ∧ w' = w := by
 go_enter Tryz.func168, Tryz.ntmps168
 go_wp2_with fail
 refine (indexLow_any B n c A l _ hr h15 hm).mono ?_
 rintro e w1 ⟨rfl, rfl⟩
 go_wp2_with fail
 go_ret
 exact ⟨rfl, rfl⟩
theorem K_len (l : List Nat) (n : Nat) : Huf.K l n ≤ l.length * 2 ^ n := by
 rw [Huf.K_sum]
 induction l with
 | nil => simp
 | cons x r ih =>
  rw [List.map_cons, List.sum_cons, List.length_cons, Nat.succ_mul, Nat.add_comm]
  refine Nat.add_le_add ih ?_
  split
  ·exact Nat.pow_le_pow_right (by omega) (by omega)
  ·exact Nat.zero_le _
def validV (l : List Nat) (v : Value) : Value := if Huf.Good l then .nilIface else v
set_option maxRecDepth 100000 in
set_option maxHeartbeats 2000000 in
theorem valid_any (B n c : Nat) (A : Option Addr) (l : List Nat) (E : Nat → Addr) (w : World) (hE : ErS w E) (hr : Reads w B 1 A n (nats l)) (hB : B ≤ w.heap.size) (h15 : ∀ x ∈ l, x ≤ 15) (hm : l.length ≤ 300) :
  Calls Tryz.prog 164 #[.slice A n c] w fun e w' => e = .returned (validV l (errV (E 2))) ∧ Below w.heap.size w w' := by
 have hn : n = l.length := by have := hr.1; rw [nats_length] at this; omega
 subst hn
 have hx := hE.shape
 have hm2 : (l.length : Int) ≤ 300 := by omega
 obtain ⟨v, hv⟩ : ∃ v, v = validV l (errV (E 2)) := ⟨_, rfl⟩
 rw [← hv]
 have HV := Lib.hid hv
 clear hv
 go_enter Tryz.func164, Tryz.ntmps164
 go_wp2_with fail
 refine (containsLow_any B l.length c A l _ hr h15 (by omega)).mono ?_
 rintro e w9 ⟨rfl, h9⟩
 replace h9 := h9.symm
 subst h9
 go_wp2_with fail
 refine (words_any B l.length c A l _ hr hB h15 (by omega)).mono ?_
 rintro e w1 ⟨rfl, hb1⟩
 have hC : Blk (w1.alloc (.cells #[.int .i64 0, .int .i64 0, .int .i64 0, .int .i64 0, .int .i64 0, .int .i64 0, .int .i64 0, .int .i64 0, .int .i64 0, .int .i64 0, .int .i64 0, .int .i64 0, .int .i64 0, .int .i64 0, .int .i64 0, .int .i64 0] 254)) w1.heap.size 254 (counts16 []).toArray := by
  rw [← zeroCounts]
  exact Blk.new w1 _ _ rfl
 have hz1 := hb1.size
 have hth2 : (w1.alloc (.cells #[.int .i64 0, .int .i64 0, .int .i64 0, .int .i64 0, .int .i64 0, .int .i64 0, .int .i64 0, .int .i64 0, .int .i64 0, .int .i64 0, .int .i64 0, .int .i64 0, .int .i64 0, .int .i64 0, .int .i64 0, .int .i64 0] 254)).there w1.heap.size 0 (counts16 l).toArray.size := by
  have := hC.thereN 16 (by rw [counts16_length]; exact Nat.le_refl _)
  simpa [counts16_length] using this
 have hsz2 : (Tryz.prog.info? 254).map (·.size) = some (counts16 l).toArray.size := by
  rw [List.size_toArray, counts16_length]
  kernel_rfl
 obtain ⟨w2, hw2⟩ : ∃ w2, w2 = (w1.alloc (.cells #[.int .i64 0, .int .i64 0, .int .i64 0, .int .i64 0, .int .i64 0, .int .i64 0, .int .i64 0, .int .i64 0, .int .i64 0, .int .i64 0, .int .i64 0, .int .i64 0, .int .i64 0, .int .i64 0, .int .i64 0, .int .i64 0] 254)).setCells w1.heap.size 0 (counts16 l).toArray.toList := ⟨_, rfl⟩
 have hra : w2.rangeAt w1.heap.size 0 (counts16 l) := by rw [hw2]; exact World.rangeAt_setCells_same (w1.alloc (.cells #[.int .i64 0, .int .i64 0, .int .i64 0, .int .i64 0, .int .i64 0, .int .i64 0, .int .i64 0, .int .i64 0, .int .i64 0, .int .i64 0, .int .i64 0, .int .i64 0, .int .i64 0, .int .i64 0, .int .i64 0, .int .i64 0] 254)) w1.heap.size 0 (counts16 l) (by simpa using hth2)
 have hb2 : Below w.heap.size w w2 := by rw [hw2]; exact Below.setCells_ (hb1.alloc hz1 _) hz1 _ _
 have hcs : ∀ k, k < 16 → w2.cell? ⟨w1.heap.size, k, none⟩ = some (.int .i64 (l.count k)) := fun k hk => by
  have := hra k _ (counts16_at l k hk)
  rwa [Nat.zero_add] at this
 have HW2 := Lib.hid hw2
 clear hw2
 have hc0 := hcs 0 (by omega)
 have hc1 := hcs 1 (by omega)
 have HCS := Lib.hid hcs
 have hx2 : w2.cell? ⟨3, 0, none⟩ = some (.iface 290 (.pointer (some (E 2)))) := bkeep hb2 hx
 obtain ⟨c0, hc0e⟩ : ∃ c0, c0 = l.count 0 := ⟨_, rfl⟩
 obtain ⟨c1, hc1e⟩ : ∃ c1, c1 = l.count 1 := ⟨_, rfl⟩
 have hl0 : c0 ≤ l.length := by rw [hc0e]; exact List.count_le_length
 rw [← hc0e] at hc0
 rw [← hc1e] at hc1
 have HC0 := Lib.hid hc0e
 have HC1 := Lib.hid hc1e
 clear hcs hra hc0e hc1e hC hr hx hb1 hz1
 go_wp2_with (refine wpList_store_mid rfl 254 (.tmp 3) (.tmp 16) rfl w1.heap.size 0 (counts16 l).toArray rfl rfl hth2 hsz2 (all_oneCell_toArray (counts16_one l)) ?_; rw [← HW2.out])
 go_loop [5, 6] (fun sv nv => ∃ m : Nat, m ≤ 15 ∧ nv = .int .i64 (m + 1 : Nat) ∧ sv = .int .i64 (Huf.K l m * 2 ^ (15 - m) : Nat)) (fun _ nv => 17 - (intOf nv).toNat)
 case atStart => exact ⟨0, by omega, rfl, by simp [Huf.K]⟩
 case round =>
  obtain ⟨m, hm15, rfl, rfl⟩ := hrel
  have hKl := K_len l m
  have hSb : Huf.K l m * 2 ^ (15 - m) ≤ 9830400 := by
   have h1 : Huf.K l m * 2 ^ (15 - m) ≤ l.length * 2 ^ m * 2 ^ (15 - m) := Nat.mul_le_mul_right _ hKl
   rw [Nat.mul_assoc, ← Nat.pow_add, show m + (15 - m) = 15 by omega] at h1
   have : l.length * 2 ^ 15 ≤ 300 * 2 ^ 15 := Nat.mul_le_mul_right _ hm
   omega
  obtain ⟨S, hS⟩ : ∃ S, S = Huf.K l m * 2 ^ (15 - m) := ⟨_, rfl⟩
  rw [← hS] at hSb ⊢
  have HS := Lib.hid hS
  clear hS hKl
  obtain ⟨n, hn⟩ : ∃ n, n = m + 1 := ⟨_, rfl⟩
  rw [← hn]
  have HN := Lib.hid hn
  have hn1 : 1 ≤ n := by omega
  have hn16 : n ≤ 16 := by omega
  clear hn
  by_cases hlt : n ≤ 15
  ·obtain ⟨d, hd⟩ : ∃ d, d = 15 - n := ⟨_, rfl⟩
   have hdi : (15 : Int) - n = (d : Nat) := by omega
   have hd14 : d ≤ 14 := by omega
   obtain ⟨y, hy⟩ : ∃ y, y = l.count n := ⟨_, rfl⟩
   have hyl : y ≤ 300 := by
    have := List.count_le_length (a := n) (l := l)
    omega
   have hcn := HCS.out n (by omega)
   rw [← hy] at hcn
   obtain ⟨X, hX⟩ : ∃ X : Nat, X = 2 ^ d := ⟨_, rfl⟩
   have hX2 : (2 : Int) ^ d = X := by rw [hX]; exact (Int.natCast_pow 2 d).symm
   have hXl : X ≤ 16384 := by rw [hX]; exact Nat.pow_le_pow_right (show 0 < 2 by omega) hd14
   have hyX : y * X ≤ 4915200 := Nat.mul_le_mul hyl hXl
   have hyXi : ((y : Int) * X) = ((y * X : Nat) : Int) := by simp
   have hnew : Huf.K l n * 2 ^ (15 - n) = S + y * X := by
    have hm1 : n = m + 1 := HN.out
    subst hm1
    rw [Huf.K, HS.out, ← hy, hX, hd, show 15 - m = (15 - (m + 1)) + 1 by omega, Nat.pow_succ, Nat.add_mul]
    have : 2 * Huf.K l m * 2 ^ (15 - (m + 1)) = Huf.K l m * (2 ^ (15 - (m + 1)) * 2) := by ac_rfl
    omega
   have HNEW := Lib.hid hnew
   obtain ⟨P, hP⟩ : ∃ P, P = y * X := ⟨_, rfl⟩
   rw [← hP] at hyX hyXi
   have HP := Lib.hid hP
   clear hnew hy hX hd hP
   go_wp2_with fail
   go_round
   case rel => exact ⟨n, hlt, by go_num, by rw [HNEW.out, ← HP.out]; rfl⟩
   case measure => simp [intOf]; omega
  ·have hn15 : m = 15 := by have := HN.out; omega
   subst hn15
   have hS2 : S = Huf.K l 15 := by rw [HS.out]; simp
   have hn16b : (15 : Int) < n := by omega
   have hnil : Huf.Good l → v = .nilIface := fun g => by rw [HV.out]; unfold validV; rw [if_pos g]
   have herr : ¬ Huf.Good l → v = errV (E 2) := fun g => by rw [HV.out]; unfold validV; rw [if_neg g]
   have hgood : Huf.Good l ↔ (c0 = l.length ∨ (c0 + 1 = l.length ∧ c1 = 1) ∨ S = 32768) := by
    unfold Huf.Good
    rw [← HC0.out, ← HC1.out, ← hS2]
    constructor
    ·exact fun g => g.2
    ·exact fun g => ⟨h15, g⟩
   have HG := Lib.hid hgood
   have HNIL := Lib.hid hnil
   have HERR := Lib.hid herr
   clear hS2 hgood hnil herr hlt hn16
   by_cases g0 : c0 = l.length
   ·have HR := Lib.hid (HNIL.out (HG.out.2 (.inl g0)))
    have b0 : ((l.length : Int) - c0 == 0) = true := by rw [beq_iff_eq]; omega
    clear g0
    go_wp2_with fail
    go_ret
    exact ⟨by rw [HR.out]; rfl, hb2⟩
   ·have b0 : ((l.length : Int) - c0 == 0) = false := by rw [beq_eq_false_iff_ne]; omega
    by_cases g1 : c0 + 1 = l.length
    ·have b1 : ((l.length : Int) - c0 == 1) = true := by rw [beq_iff_eq]; omega
     by_cases g2 : c1 = 1
     ·have HR := Lib.hid (HNIL.out (HG.out.2 (.inr (.inl ⟨g1, g2⟩))))
      have b2 : ((c1 : Int) == 1) = true := by rw [beq_iff_eq]; omega
      clear g0 g1 g2
      go_wp2_with fail
      go_ret
      exact ⟨by rw [HR.out]; rfl, hb2⟩
     ·have b2 : ((c1 : Int) == 1) = false := by rw [beq_eq_false_iff_ne]; omega
      by_cases g3 : S = 32768
      ·have HR := Lib.hid (HNIL.out (HG.out.2 (.inr (.inr g3))))
       have b3 : ((S : Int) == 32768) = true := by rw [beq_iff_eq]; omega
       clear g0 g1 g2 g3
       go_wp2_with fail
       go_ret
       exact ⟨by rw [HR.out]; rfl, hb2⟩
      ·have HR := Lib.hid (HERR.out (fun h => (HG.out.1 h).elim g0 fun h => h.elim (fun h => g2 h.2) g3))
       have b3 : ((S : Int) == 32768) = false := by rw [beq_eq_false_iff_ne]; omega
       clear g0 g1 g2 g3
       go_wp2_with fail
       go_ret
       exact ⟨by rw [HR.out]; rfl, hb2⟩
    ·have b1 : ((l.length : Int) - c0 == 1) = false := by rw [beq_eq_false_iff_ne]; omega
     by_cases g3 : S = 32768
     ·have HR := Lib.hid (HNIL.out (HG.out.2 (.inr (.inr g3))))
      have b3 : ((S : Int) == 32768) = true := by rw [beq_iff_eq]; omega
      clear g0 g1 g3
      go_wp2_with fail
      go_ret
      exact ⟨by rw [HR.out]; rfl, hb2⟩
     ·have HR := Lib.hid (HERR.out (fun h => (HG.out.1 h).elim g0 fun h => h.elim (fun h => g1 h.1) g3))
      have b3 : ((S : Int) == 32768) = false := by rw [beq_eq_false_iff_ne]; omega
      clear g0 g1 g3
      go_wp2_with fail
      go_ret
      exact ⟨by rw [HR.out]; rfl, hb2⟩
end Go.Proofs.YtkegkelaffohjaaGreatDoor
namespace Go.Proofs.YtkegkelaffohjaaGreatDoor
open Go Go.RowKit
def u32s (l : List Nat) : List Value := l.map fun n : Nat => Value.int .u32 (n : Int)
theorem u32s_length (l : List Nat) : (u32s l).length = l.length := by simp [u32s]
theorem u32s_at (l : List Nat) (k : Nat) (hk : k < l.length) : (u32s l)[k]? = some (.int .u32 l[k]) := by simp [u32s, hk]
def codeOf (l : List Nat) (i : Nat) : Nat := if l.getD i 0 = 0 then 0 else Huf.code l i (l.getD i 0)
def codesTo (l : List Nat) (i : Nat) : List Nat := (List.range l.length).map fun k => if k < i then codeOf l k else 0
def nextTo (l : List Nat) (i : Nat) : List Nat := (List.range 16).map fun n => if n = 0 then 0 else 2 * Huf.K l (n - 1) + (l.take i).count n
theorem codesTo_length (l : List Nat) (i : Nat) : (codesTo l i).length = l.length := by simp [codesTo]
theorem codesTo_get (l : List Nat) (i k : Nat) (h : k < l.length) : (codesTo l i)[k]? = some (if k < i then codeOf l k else 0) := by
 unfold codesTo
 rw [List.getElem?_map, List.getElem?_range h]
 rfl
theorem nextTo_get (l : List Nat) (i n : Nat) (h : n < 16) : (nextTo l i)[n]? = some (if n = 0 then 0 else 2 * Huf.K l (n - 1) + (l.take i).count n) := by
 unfold nextTo
 rw [List.getElem?_map, List.getElem?_range h]
 rfl
theorem codesTo_set (l : List Nat) (i : Nat) (h : i < l.length) : (codesTo l i).set i (codeOf l i) = codesTo l (i + 1) := by
 refine List.ext_getElem? fun k => ?_
 rw [List.getElem?_set, codesTo_length]
 rcases Nat.lt_or_ge k l.length with hk | hk
 ·rw [codesTo_get _ _ _ hk, codesTo_get _ _ _ hk]
  by_cases e : i = k
  ·subst e
   rw [if_pos rfl, if_pos h, if_pos (by omega)]
  ·rw [if_neg e]
   by_cases c : k < i
   ·rw [if_pos c, if_pos (by omega)]
   ·rw [if_neg c, if_neg (by omega)]
 ·rw [if_neg (by omega), List.getElem?_eq_none (by rw [codesTo_length]; exact hk), List.getElem?_eq_none (by rw [codesTo_length]; exact hk)]
theorem codesTo_skip (l : List Nat) (i : Nat) (h : l.getD i 0 = 0) : codesTo l (i + 1) = codesTo l i := by
 unfold codesTo
 refine List.map_congr_left fun k _ => ?_
 by_cases e : k = i
 ·subst e
  rw [if_pos (by omega), if_neg (by omega)]
  unfold codeOf
  rw [if_pos h]
 ·by_cases c : k < i
  ·rw [if_pos c, if_pos (by omega)]
  ·rw [if_neg c, if_neg (by omega)]
theorem take_count (l : List Nat) (i n : Nat) (h : i < l.length) : (l.take (i + 1)).count n = (l.take i).count n + if l.getD i 0 = n then 1 else 0 := by
 rw [List.take_succ_eq_append_getElem h, List.count_append, List.getD_eq_getElem?_getD, List.getElem?_eq_getElem h]
 by_cases e : l[i] = n
 ·simp [e]
 ·simp [e]
theorem nextTo_set (l : List Nat) (i x : Nat) (h : i < l.length) (hx : x = l.getD i 0) (h0 : 0 < x) (h15 : x ≤ 15) : (nextTo l i).set x (2 * Huf.K l (x - 1) + (l.take i).count x + 1) = nextTo l (i + 1) := by
 refine List.ext_getElem? fun k => ?_
 have hl : ∀ i, (nextTo l i).length = 16 := fun i => by unfold nextTo; rw [List.length_map, List.length_range]
 rw [List.getElem?_set, hl]
 rcases Nat.lt_or_ge k 16 with hk | hk
 ·rw [nextTo_get _ _ _ hk, nextTo_get _ _ _ hk, take_count l i k h, ← hx]
  by_cases e : x = k
  ·subst e
   rw [if_pos rfl, if_pos (by omega), if_neg (by omega), if_pos rfl]
   rfl
  ·rw [if_neg e, if_neg e, Nat.add_zero]
 ·rw [if_neg (by omega), List.getElem?_eq_none (by rw [hl]; exact hk), List.getElem?_eq_none (by rw [hl]; exact hk)]
theorem nextTo_skip (l : List Nat) (i : Nat) (h : i < l.length) (hx : l.getD i 0 = 0) : nextTo l (i + 1) = nextTo l i := by
 unfold nextTo
 refine List.map_congr_left fun n _ => ?_
 by_cases e : n = 0
 ·rw [if_pos e, if_pos e]
 ·rw [if_neg e, if_neg e, take_count l i n h, hx, if_neg (by omega), Nat.add_zero]
def firstTo (l : List Nat) (m : Nat) : List Nat := (List.range 16).map fun n => if n = 0 ∨ m < n then 0 else 2 * Huf.K l (n - 1)
theorem firstTo_get (l : List Nat) (m n : Nat) (h : n < 16) : (firstTo l m)[n]? = some (if n = 0 ∨ m < n then 0 else 2 * Huf.K l (n - 1)) := by
 unfold firstTo
 rw [List.getElem?_map, List.getElem?_range h]
 rfl
theorem firstTo_length (l : List Nat) (m : Nat) : (firstTo l m).length = 16 := by unfold firstTo; rw [List.length_map, List.length_range]
theorem firstTo_one (l : List Nat) : firstTo l 1 = List.replicate 16 0 := by
 refine List.ext_getElem? fun k => ?_
 rcases Nat.lt_or_ge k 16 with hk | hk
 ·rw [firstTo_get _ _ _ hk, List.getElem?_replicate, if_pos hk]
  by_cases e : k = 0 ∨ 1 < k
  ·rw [if_pos e]
  ·have : k = 1 := by omega
   subst this
   rw [if_neg e]
   rfl
 ·rw [List.getElem?_eq_none (by rw [firstTo_length]; exact hk), List.getElem?_eq_none (by simpa using hk)]
theorem firstTo_set (l : List Nat) (m : Nat) (h1 : 1 ≤ m) (h : m < 15) : (firstTo l m).set (m + 1) (2 * (2 * Huf.K l (m - 1) + l.count m)) = firstTo l (m + 1) := by
 refine List.ext_getElem? fun k => ?_
 rw [List.getElem?_set, firstTo_length]
 rcases Nat.lt_or_ge k 16 with hk | hk
 ·rw [firstTo_get _ _ _ hk, firstTo_get _ _ _ hk]
  by_cases e : m + 1 = k
  ·subst e
   rw [if_pos rfl, if_pos hk, if_neg (by omega)]
   obtain ⟨m2, rfl⟩ : ∃ m2, m = m2 + 1 := ⟨m - 1, by omega⟩
   rw [show m2 + 1 + 1 - 1 = m2 + 1 by omega, Huf.K, show m2 + 1 - 1 = m2 by omega]
  ·rw [if_neg e]
   by_cases c : k = 0 ∨ m < k
   ·rw [if_pos c, if_pos (by omega)]
   ·rw [if_neg c, if_neg (by omega)]
 ·rw [if_neg (by omega), List.getElem?_eq_none (by rw [firstTo_length]; exact hk), List.getElem?_eq_none (by rw [firstTo_length]; exact hk)]
theorem firstTo_end (l : List Nat) : firstTo l 15 = nextTo l 0 := by
 unfold firstTo nextTo
 refine List.map_congr_left fun n hn => ?_
 have := List.mem_range.1 hn
 by_cases e : n = 0
 ·rw [if_pos (.inl e), if_pos e]
 ·rw [if_neg (by omega), if_neg e]
  simp
theorem codesTo_zero (l : List Nat) : codesTo l 0 = List.replicate l.length 0 := by
 unfold codesTo
 refine List.ext_getElem (by simp) fun i h1 h2 => ?_
 simp
theorem zeroFirst (l : List Nat) : (#[.int .u32 0, .int .u32 0, .int .u32 0, .int .u32 0, .int .u32 0, .int .u32 0, .int .u32 0, .int .u32 0, .int .u32 0, .int .u32 0, .int .u32 0, .int .u32 0, .int .u32 0, .int .u32 0, .int .u32 0, .int .u32 0] : Array Value) = (u32s (firstTo l 1)).toArray := by
 rw [firstTo_one]
 rfl
theorem u32Info : (Tryz.prog.info? 76).map (fun i => (i.zero, i.size, i.bytes)) = some (some (.int .u32 0), 1, 4) := by kernel_rfl
theorem Own.setU32 {w : World} {base n c g off : Nat} {l : List Nat} (h : Own w base 1 (.slice (some ⟨g, off, none⟩) n c) n (u32s l)) (i : Nat) (hi : i < n) (x : Nat) :
  Own (w.setCell ⟨g, off + i, none⟩ (.int .u32 x)) base 1 (.slice (some ⟨g, off, none⟩) n c) n (u32s (l.set i x)) := by
 have hl : l.length = n := by have := h.1; rw [u32s_length] at this; omega
 have := h.setOne i hi [.int .u32 x] (u32s (l.set i x)) rfl (by rw [u32s_length, List.length_set, hl]; omega) (fun j hj => by
  have : j = 0 := by omega
  subst this
  unfold u32s
  simp [hl, hi]) (fun j hj => by
  unfold u32s
  rw [List.getElem?_map, List.getElem?_map, List.getElem?_set]
  rw [if_neg (by omega)])
 simpa [World.setCells] using this
theorem first_le {l : List Nat} (h : Huf.K l 15 ≤ 2 ^ 15) (n : Nat) (h1 : 1 ≤ n) (hn : n ≤ 15) : 2 * Huf.K l (n - 1) + l.count n ≤ 32768 := by
 obtain ⟨m, rfl⟩ : ∃ m, n = m + 1 := ⟨n - 1, by omega⟩
 have h1 := Huf.K_le h hn
 rw [Huf.K] at h1
 have h2 : (2 : Nat) ^ (m + 1) ≤ 2 ^ 15 := Nat.pow_le_pow_right (by omega) hn
 rw [show m + 1 - 1 = m by omega]
 omega
set_option maxRecDepth 100000 in
set_option maxHeartbeats 2000000 in
theorem codes_any (B n c : Nat) (A : Option Addr) (l : List Nat) (E : Nat → Addr) (w : World) (hE : ErS w E) (hr : Reads w B 1 A n (nats l)) (hB : B ≤ w.heap.size) (hg : Huf.Good l) (hm : l.length ≤ 300) :
  Calls Tryz.prog 143 #[.slice A n c] w fun e w' => ∃ A' c', e = .returned (.tuple #[.slice A' l.length c', .nilIface]) ∧ Own w' w.heap.size 1 (.slice A' l.length c') l.length (u32s (codesTo l l.length)) ∧ Below w.heap.size w w' := by
 have hn : n = l.length := by have := hr.1; rw [nats_length] at this; omega
 subst hn
 have hv : validV l (errV (E 2)) = .nilIface := by unfold validV; rw [if_pos hg]
 obtain ⟨i0, hi, hz0, hz1, hz2⟩ := info_parts u32Info
 go_enter Tryz.func143, Tryz.ntmps143
 go_wp2_with fail
 refine (valid_any B l.length c A l E _ hE hr hB hg.1 hm).mono ?_
 rw [hv]
 rintro e w1 ⟨rfl, hb1⟩
 have hz1' := hb1.size
 go_wp2_with fail
 refine (words_any B l.length c A l _ (hr.below hb1 hB) (by omega) hg.1 (by omega)).mono ?_
 rintro e w2 ⟨rfl, hb2⟩
 have hbw2 := hb1.trans (hb2.mono hz1')
 have hz2' := hbw2.size
 have hC : Blk (w2.alloc (.cells #[.int .i64 0, .int .i64 0, .int .i64 0, .int .i64 0, .int .i64 0, .int .i64 0, .int .i64 0, .int .i64 0, .int .i64 0, .int .i64 0, .int .i64 0, .int .i64 0, .int .i64 0, .int .i64 0, .int .i64 0, .int .i64 0] 254)) w2.heap.size 254 (counts16 []).toArray := by
  rw [← zeroCounts]
  exact Blk.new w2 _ _ rfl
 have hth2 : (w2.alloc (.cells #[.int .i64 0, .int .i64 0, .int .i64 0, .int .i64 0, .int .i64 0, .int .i64 0, .int .i64 0, .int .i64 0, .int .i64 0, .int .i64 0, .int .i64 0, .int .i64 0, .int .i64 0, .int .i64 0, .int .i64 0, .int .i64 0] 254)).there w2.heap.size 0 (counts16 l).toArray.size := by
  have := hC.thereN 16 (by rw [counts16_length]; exact Nat.le_refl _)
  simpa [counts16_length] using this
 have hsz2 : (Tryz.prog.info? 254).map (·.size) = some (counts16 l).toArray.size := by
  rw [List.size_toArray, counts16_length]
  kernel_rfl
 obtain ⟨w3, hw3⟩ : ∃ w3, w3 = (w2.alloc (.cells #[.int .i64 0, .int .i64 0, .int .i64 0, .int .i64 0, .int .i64 0, .int .i64 0, .int .i64 0, .int .i64 0, .int .i64 0, .int .i64 0, .int .i64 0, .int .i64 0, .int .i64 0, .int .i64 0, .int .i64 0, .int .i64 0] 254)).setCells w2.heap.size 0 (counts16 l).toArray.toList := ⟨_, rfl⟩
 have hra : w3.rangeAt w2.heap.size 0 (counts16 l) := by rw [hw3]; exact World.rangeAt_setCells_same (w2.alloc (.cells #[.int .i64 0, .int .i64 0, .int .i64 0, .int .i64 0, .int .i64 0, .int .i64 0, .int .i64 0, .int .i64 0, .int .i64 0, .int .i64 0, .int .i64 0, .int .i64 0, .int .i64 0, .int .i64 0, .int .i64 0, .int .i64 0] 254)) w2.heap.size 0 (counts16 l) (by simpa using hth2)
 have hbw3 : Below w.heap.size w w3 := by rw [hw3]; exact Below.setCells_ (hbw2.alloc hz2' _) hz2' _ _
 have hlt3 : w2.heap.size < w3.heap.size := by
  have := hra 0 _ (counts16_at l 0 (by omega))
  exact cell_lt this
 have HW3 := Lib.hid hw3
 clear hw3 hC
 go_wp2_with (refine wpList_store_mid rfl 254 (.tmp 5) (.tmp 17) rfl w2.heap.size 0 (counts16 l).toArray rfl rfl hth2 hsz2 (all_oneCell_toArray (counts16_one l)) ?_; rw [← HW3.out])
 have hF : Blk (w3.alloc (.cells #[.int .u32 0, .int .u32 0, .int .u32 0, .int .u32 0, .int .u32 0, .int .u32 0, .int .u32 0, .int .u32 0, .int .u32 0, .int .u32 0, .int .u32 0, .int .u32 0, .int .u32 0, .int .u32 0, .int .u32 0, .int .u32 0] 256)) w3.heap.size 256 (u32s (firstTo l 1)).toArray := by
  rw [← zeroFirst]
  exact Blk.new w3 _ _ rfl
 have hra4 : (w3.alloc (.cells #[.int .u32 0, .int .u32 0, .int .u32 0, .int .u32 0, .int .u32 0, .int .u32 0, .int .u32 0, .int .u32 0, .int .u32 0, .int .u32 0, .int .u32 0, .int .u32 0, .int .u32 0, .int .u32 0, .int .u32 0, .int .u32 0] 256)).rangeAt w2.heap.size 0 (counts16 l) := fun j v hv => cell_past _ (hra j v hv)
 have hbw4 : Below w.heap.size w (w3.alloc (.cells #[.int .u32 0, .int .u32 0, .int .u32 0, .int .u32 0, .int .u32 0, .int .u32 0, .int .u32 0, .int .u32 0, .int .u32 0, .int .u32 0, .int .u32 0, .int .u32 0, .int .u32 0, .int .u32 0, .int .u32 0, .int .u32 0] 256)) := hbw3.alloc hbw3.size _
 have hsz4 : (w3.alloc (.cells #[.int .u32 0, .int .u32 0, .int .u32 0, .int .u32 0, .int .u32 0, .int .u32 0, .int .u32 0, .int .u32 0, .int .u32 0, .int .u32 0, .int .u32 0, .int .u32 0, .int .u32 0, .int .u32 0, .int .u32 0, .int .u32 0] 256)).heap.size = w3.heap.size + 1 := by simp
 obtain ⟨gm, hgm⟩ : ∃ gm, gm = w2.heap.size := ⟨_, rfl⟩
 obtain ⟨gf, hgf⟩ : ∃ gf, gf = w3.heap.size := ⟨_, rfl⟩
 have hmf : gm < gf := by omega
 have hwm : w.heap.size ≤ gm := by omega
 have hwf : w.heap.size ≤ gf := by omega
 rw [← hgm] at hra4
 rw [← hgf] at hF
 rw [← hgm, ← hgf]
 have hne : gf ≠ gm := by omega
 have hne2 : gm ≠ gf := by omega
 generalize w3.alloc (.cells #[.int .u32 0, .int .u32 0, .int .u32 0, .int .u32 0, .int .u32 0, .int .u32 0, .int .u32 0, .int .u32 0, .int .u32 0, .int .u32 0, .int .u32 0, .int .u32 0, .int .u32 0, .int .u32 0, .int .u32 0, .int .u32 0] 256) = w4 at *
 clear hgm hgf hth2 hsz2 hra hbw3 hlt3 HW3 hbw2 hb2 hz2' hb1 hz1' hsz4
 go_loopw [7] (fun nv wr => ∃ m : Nat, 1 ≤ m ∧ m ≤ 15 ∧ nv = .int .i64 (m + 1 : Nat) ∧ Blk wr gf 256 (u32s (firstTo l m)).toArray ∧ wr.rangeAt gm 0 (counts16 l) ∧ Below w.heap.size w wr) (fun nv _ => 17 - (intOf nv).toNat)
 case atStart => exact ⟨1, by omega, by omega, rfl, hF, hra4, hbw4⟩
 case round =>
  clear hF hra4 hbw4
  obtain ⟨m, hm1, hm15, rfl, hF, hra, hbw⟩ := hrel
  obtain ⟨N, hN⟩ : ∃ N, N = m + 1 := ⟨_, rfl⟩
  rw [← hN]
  have hNi : (N : Int) - 1 = m := by omega
  by_cases hlt : m < 15
  ·have hN15 : (N : Int) ≤ 15 := by omega
   obtain ⟨x, hx⟩ : ∃ x, x = 2 * Huf.K l (m - 1) := ⟨_, rfl⟩
   obtain ⟨y, hy⟩ : ∃ y, y = l.count m := ⟨_, rfl⟩
   have hxy := first_le hg.le m hm1 hm15
   rw [← hx, ← hy] at hxy
   have c0 : wr.cell? ⟨gf, m, none⟩ = some (.int .u32 x) := by
    rw [hF.cell]
    have h1 := firstTo_get l m m (by omega)
    rw [if_neg (by omega), ← hx] at h1
    simp [u32s, h1]
   have c1 : wr.cell? ⟨gm, m, none⟩ = some (.int .i64 y) := by
    have := hra m _ (counts16_at l m (by omega))
    rwa [Nat.zero_add, ← hy] at this
   have c2 : ∃ u, wr.cell? ⟨gf, N, none⟩ = some u := by
    have := (hF.thereN 16 (by rw [u32s_length, firstTo_length]; exact Nat.le_refl _) N (by omega)).1
    rw [Nat.zero_add] at this
    exact Option.isSome_iff_exists.1 this
   obtain ⟨u, c2⟩ := c2
   have f2 := hF.free N
   have hset := hF.set_ N (.int .u32 (2 * (x + y) : Nat))
   have hfs := firstTo_set l m hm1 hlt
   rw [← hx, ← hy, ← hN] at hfs
   have hyw : IntKind.u32.wrap (y : Int) = y := IntWalk.u32_in _ (by omega)
   have HFS := Lib.hid hfs
   have HN := Lib.hid hN
   have HNM := Lib.hid (show N ≤ 15 by omega)
   clear hfs hx hy hN
   go_wp2_with fail
   go_region
   go_wp2_with fail
   go_roundw
   case rel =>
    have e1 : ((x : Int) + y) * 2 = ((2 * (x + y) : Nat) : Int) := by omega
    rw [e1]
    refine ⟨N, by have := HN.out; omega, HNM.out, by go_num, ?_, ?_, (hbw.setCell (p := ⟨gf, N, none⟩) hwf _).drew⟩
    ·rw [← HFS.out]
     refine Blk.drew ?_
     have e2 : u32s ((firstTo l m).set N (2 * (x + y))) = (u32s (firstTo l m)).set N (.int .u32 (2 * (x + y) : Nat)) := by simp [u32s, List.map_set]
     rw [e2]
     simpa using hset
    ·intro j v hv
     exact (World.cell?_setCell_far wr ⟨gf, N, none⟩ ⟨gm, 0 + j, none⟩ _ hne).trans (hra j v hv)
   case measure => simp [intOf]; omega
  ·have hm2 : m = 15 := by omega
   subst hm2
   rw [firstTo_end] at hF
   have hN16 : (15 : Int) < N := by omega
   clear hlt hN hNi
   go_wp2_with (refine wpList_make_full _ rfl (.tmp 36) (.tmp 36) 219 rfl w.heap.size 76 i0 _ 1 Tryz.underlying219 hi hz0 hz1 .i64 .i64 _ _ l.length rfl rfl rfl rfl (by rw [hz2]; omega) (by unfold maxLen; omega) hbw.size ?_; intro w5 hrow5 hg5)
   have hown := Own.of_row hrow5
   rw [made_same _ (.int .u32 0) (by decide) (by intro j hj; have : j = 0 := (by simp [Value.cells] at hj; omega); subst this; rfl), Nat.mul_one] at hown
   have hzz : List.replicate l.length (Value.int .u32 0) = u32s (codesTo l 0) := by rw [codesTo_zero]; simp [u32s]
   rw [hzz] at hown
   have hF5 := hF.grown hg5 (by intro e; cases e)
   have hbw5 : Below w.heap.size w w5 := Below.grown hbw hg5 hbw.size (fun g hg => by cases hg)
   have hA1 : w.heap.size ≤ wr.heap.size := hbw.size
   have hAf : gf < wr.heap.size := hF.lt
   obtain ⟨ga, hga⟩ : ∃ ga, ga = wr.heap.size := ⟨_, rfl⟩
   have hown2 : Own w5 w.heap.size 1 (.slice (some ⟨ga, 0, none⟩) l.length l.length) l.length (u32s (codesTo l 0)) := by rw [hga]; exact hown
   have hafg : gf ≠ ga := by omega
   have hafg2 : ga ≠ gf := by omega
   have hwa : w.heap.size ≤ ga := by omega
   rw [← hga]
   clear hown hga hrow5 hg5 hF hra hbw hA1 hAf hzz
   go_loopw [40] (fun iv wr => ∃ j : Nat, j ≤ l.length ∧ iv = .int .i64 j ∧ Own wr w.heap.size 1 (.slice (some ⟨ga, 0, none⟩) l.length l.length) l.length (u32s (codesTo l j)) ∧ Blk wr gf 256 (u32s (nextTo l j)).toArray ∧ Below w.heap.size w wr) (fun iv _ => l.length - (intOf iv).toNat)
   case atStart => exact ⟨0, Nat.zero_le _, rfl, hown2, hF5, hbw5⟩
   case round =>
    clear hown2 hF5 hbw5
    obtain ⟨j, hj, rfl, hown, hF, hbw⟩ := hrel
    obtain ⟨wy, hwy⟩ : ∃ wy, wy = wr := ⟨_, rfl⟩
    rw [← hwy] at hown hF hbw ⊢
    clear hwy
    by_cases hlt : j < l.length
    ·obtain ⟨gl, ol, rfl, hgl⟩ := hr.addr (by omega)
     have hcell := (hr.below hbw hB).cell rfl j (by rw [Nat.mul_one]; exact hlt)
     rw [nats_at _ _ hlt] at hcell
     obtain ⟨x, hx⟩ : ∃ x, x = l[j] := ⟨_, rfl⟩
     have hx15 : x ≤ 15 := by rw [hx]; exact hg.1 _ (List.getElem_mem hlt)
     have hxd : x = l.getD j 0 := by rw [hx, List.getD_eq_getElem?_getD, List.getElem?_eq_getElem hlt]; rfl
     rw [← hx] at hcell
     clear hx
     by_cases h0 : x = 0
     ·have hsk := codesTo_skip l j (by rw [← hxd]; exact h0)
      have hsn := nextTo_skip l j hlt (by rw [← hxd]; exact h0)
      rw [← hsk] at hown
      rw [← hsn] at hF
      clear hsk hsn hxd
      subst h0
      go_wp2_with fail
      go_roundw
      case rel => exact ⟨j + 1, hlt, by go_num, hown, hF, hbw⟩
      case measure => simp [intOf]; omega
     ·have hx0 : (0 : Int) < x := by omega
      obtain ⟨y, hy⟩ : ∃ y, y = 2 * Huf.K l (x - 1) + (l.take j).count x := ⟨_, rfl⟩
      have hrk := Huf.rank_lt l (i := j) (n := x) (by rw [hxd, List.getD_eq_getElem?_getD, List.getElem?_eq_getElem hlt]; rfl)
      have hyb := first_le hg.le x (by omega) hx15
      have hyl : y < 32768 := by omega
      have hco : codeOf l j = y := by
       unfold codeOf Huf.code
       rw [← hxd, if_neg h0, ← hy]
      have hcs := codesTo_set l j hlt
      rw [hco] at hcs
      have hns := nextTo_set l j x hlt hxd (by omega) hx15
      rw [← hy] at hns
      have c0 : wy.cell? ⟨gf, x, none⟩ = some (.int .u32 y) := by
       rw [hF.cell]
       have h1 := nextTo_get l j x (by omega)
       rw [if_neg h0, ← hy] at h1
       simp [u32s, h1]
      have f0 := hF.free x
      obtain ⟨ta, pa⟩ := hown.cellAt j hlt
      rw [u32s_at _ _ (by rw [codesTo_length]; exact hlt), Nat.zero_add] at ta
      rw [Nat.zero_add] at pa
      have hset1 := hown.setU32 j hlt y
      rw [Nat.zero_add, hcs] at hset1
      have hset2 := hset1.setCell (p := ⟨gf, x, none⟩) (by intro e; injection e with e; exact hafg2 e) (.int .u32 (y + 1 : Nat))
      have hF1 := hF.far (p := ⟨ga, j, none⟩) hafg (.int .u32 y)
      have hF2 := hF1.set_ x (.int .u32 (y + 1 : Nat))
      have e2 : (u32s (nextTo l j)).set x (.int .u32 (y + 1 : Nat)) = u32s (nextTo l (j + 1)) := by rw [← hns]; simp [u32s, List.map_set]
      have hF3 : Blk ((wy.setCell ⟨ga, j, none⟩ (.int .u32 y)).setCell ⟨gf, x, none⟩ (.int .u32 (y + 1 : Nat))) gf 256 (u32s (nextTo l (j + 1))).toArray := by
       rw [← e2]
       simpa using hF2
      have hb3 := (hbw.setCell (p := ⟨ga, j, none⟩) hwa (.int .u32 y)).setCell (p := ⟨gf, x, none⟩) hwf (.int .u32 (y + 1 : Nat))
      have c1 : (wy.setCell ⟨ga, j, none⟩ (.int .u32 y)).cell? ⟨gf, x, none⟩ = some (.int .u32 y) := (World.cell?_setCell_far wy ⟨ga, j, none⟩ ⟨gf, x, none⟩ _ hafg2).trans c0
      have f1 := hF1.free x
      have hey : ((y + 1 : Nat) : Int) = (y : Int) + 1 := by omega
      rw [hey] at hset2 hF3 hb3
      have HS2 := Lib.hid hset2
      have HF3 := Lib.hid hF3
      have HB3 := Lib.hid hb3
      clear hset2 hF3 hb3 hset1 hF1 hF2 e2 hcs hns hco hy hxd hrk hyb hey hown
      go_wp2_with fail
      go_roundw
      case rel => exact ⟨j + 1, hlt, by go_num, HS2.out, HF3.out, HB3.out⟩
      case measure => simp [intOf]; omega
    ·have hje : j = l.length := by omega
     subst hje
     go_wp2_with fail
     go_ret2
     exact ⟨_, _, rfl, hown, hbw⟩
end Go.Proofs.YtkegkelaffohjaaGreatDoor
namespace Go.Proofs.YtkegkelaffohjaaGreatDoor
open Go Go.RowKit
theorem nats_one (l : List Nat) : ∀ u ∈ nats l, u.oneCell' = true := by
 intro u hu
 obtain ⟨n, _, rfl⟩ := List.mem_map.1 hu
 rfl
theorem nats_append (a b : List Nat) : nats (a ++ b) = nats a ++ nats b := by simp [nats]
structure TreeAt (w : World) (B g : Nat) (cs : List Nat) (sy : List Nat) (v : Value) : Prop where
 blk : Blk w g 283 (counts16 cs ++ [v]).toArray
 own : Own w B 1 v sy.length (nats sy)
 ne : v.ownBlock ≠ some g
 bg : B ≤ g
theorem TreeAt.sy {w : World} {B g : Nat} {cs sy : List Nat} {v : Value} (h : TreeAt w B g cs sy v) : w.cell? ⟨g, 16, none⟩ = some v := by
 rw [h.blk.cell]
 have := counts16_length cs
 simp [this]
theorem TreeAt.cnt {w : World} {B g : Nat} {cs sy : List Nat} {v : Value} (h : TreeAt w B g cs sy v) (n : Nat) (hn : n < 16) : w.cell? ⟨g, n, none⟩ = some (.int .i64 (cs.count n)) := by
 rw [h.blk.cell]
 have h1 := counts16_length cs
 have h2 := counts16_at cs n hn
 simp only [List.getElem?_toArray]
 rw [List.getElem?_append_left (by omega), h2]
def idxTo (l : List Nat) (n i : Nat) : List Nat := (List.range i).filter fun j => decide (l[j]? = some n)
theorem idxTo_succ (l : List Nat) (n i : Nat) : idxTo l n (i + 1) = idxTo l n i ++ if l[i]? = some n then [i] else [] := by
 unfold idxTo
 rw [List.range_succ, List.filter_append]
 congr 1
 by_cases h : l[i]? = some n
 ·simp [h]
 ·simp [h]
theorem idxTo_end (l : List Nat) (n : Nat) : idxTo l n l.length = Huf.idx l n := rfl
theorem idxTo_len (l : List Nat) (n i : Nat) : (idxTo l n i).length ≤ i := by
 unfold idxTo
 have := List.length_filter_le (fun j => decide (l[j]? = some n)) (List.range i)
 rw [List.length_range] at this
 exact this
theorem symN_len (l : List Nat) : ∀ n, (Huf.symN l n).length ≤ n * l.length
 | 0 => by simp [Huf.symN]
 | n + 1 => by
  have ih := symN_len l n
  have := List.count_le_length (a := n + 1) (l := l)
  rw [Huf.symN, List.length_append, Huf.idx_len, Nat.succ_mul]
  omega
theorem built16 (a0 a1 a2 a3 a4 a5 a6 a7 a8 a9 a10 a11 a12 a13 a14 a15 : Value) : (List.foldl (fun (cs : Array Value) (x : Value × Nat) => cs.setIfInBounds x.2 x.1) #[.int .i64 0, .int .i64 0, .int .i64 0, .int .i64 0, .int .i64 0, .int .i64 0, .int .i64 0, .int .i64 0, .int .i64 0, .int .i64 0, .int .i64 0, .int .i64 0, .int .i64 0, .int .i64 0, .int .i64 0, .int .i64 0, .slice none 0 0] [a0, a1, a2, a3, a4, a5, a6, a7, a8, a9, a10, a11, a12, a13, a14, a15].zipIdx) = #[a0, a1, a2, a3, a4, a5, a6, a7, a8, a9, a10, a11, a12, a13, a14, a15, .slice none 0 0] := by
 simp [List.zipIdx]
theorem builtTree (l : List Nat) : (List.foldl (fun (cs : Array Value) (x : Value × Nat) => cs.setIfInBounds x.2 x.1) #[.int .i64 0, .int .i64 0, .int .i64 0, .int .i64 0, .int .i64 0, .int .i64 0, .int .i64 0, .int .i64 0, .int .i64 0, .int .i64 0, .int .i64 0, .int .i64 0, .int .i64 0, .int .i64 0, .int .i64 0, .int .i64 0, .slice none 0 0] (counts16 l).zipIdx) = (counts16 l ++ [Value.slice none 0 0]).toArray :=
 built16 _ _ _ _ _ _ _ _ _ _ _ _ _ _ _ _
set_option maxRecDepth 100000 in
set_option maxHeartbeats 2000000 in
theorem hread_good (B n c : Nat) (A : Option Addr) (l : List Nat) (E : Nat → Addr) (w : World) (hE : Er4 w E) (hr : Reads w B 1 A n (nats l)) (hB : B ≤ w.heap.size) (hg : Huf.Good l) (hm : l.length ≤ 300) :
  Calls Tryz.prog 177 #[.slice A n c] w fun e w' => ∃ g v, e = .returned (.tuple #[.pointer (some ⟨g, 0, none⟩), .nilIface]) ∧ TreeAt w' w.heap.size g l (Huf.syms l) v ∧ Below w.heap.size w w' := by
 have hn : n = l.length := by have := hr.1; rw [nats_length] at this; omega
 subst hn
 have hv : validV l (errV (E 2)) = .nilIface := by unfold validV; rw [if_pos hg]
 obtain ⟨i0, hi, hz0, hz1, hz2⟩ := info_parts intInfo
 go_enter Tryz.func177, Tryz.ntmps177
 go_wp2_with fail
 refine (valid_any B l.length c A l E _ hE.ers hr hB hg.1 hm).mono ?_
 rw [hv]
 rintro e w1 ⟨rfl, hb1⟩
 have hz1' := hb1.size
 go_wp2_with fail
 refine (words_any B l.length c A l _ (hr.below hb1 hB) (by omega) hg.1 (by omega)).mono ?_
 rintro e w2 ⟨rfl, hb2⟩
 have hbw2 := hb1.trans (hb2.mono hz1')
 have hcl := counts16_length l
 have hbt := builtTree l
 go_wp2_with fail
 have hT : TreeAt (w2.alloc (.cells (counts16 l ++ [Value.slice none 0 0]).toArray 283)) w.heap.size w2.heap.size l [] (.slice none 0 0) :=
  ⟨Blk.new w2 _ _ rfl, Own.nil _ _ _, (fun e => by cases e), hbw2.size⟩
 have hbw3 := hbw2.alloc hbw2.size (.cells (counts16 l ++ [Value.slice none 0 0]).toArray 283)
 obtain ⟨g, hg2⟩ : ∃ g, g = w2.heap.size := ⟨_, rfl⟩
 have hwg : w.heap.size ≤ g := by have := hbw2.size; omega
 rw [← hg2] at hT ⊢
 generalize w2.alloc (.cells (counts16 l ++ [Value.slice none 0 0]).toArray 283) = w3 at *
 clear hbt hcl hb1 hb2 hbw2 hz1' hg2
 go_loopw [6] (fun nv wr => ∃ (m : Nat) (v : Value), m ≤ 15 ∧ nv = .int .i64 (m + 1 : Nat) ∧ TreeAt wr w.heap.size g l (Huf.symN l m) v ∧ Below w.heap.size w wr) (fun nv _ => 17 - (intOf nv).toNat)
 case atStart => exact ⟨0, _, by omega, rfl, hT, hbw3⟩
 case round =>
  clear hT hbw3
  obtain ⟨m, v, hm15, rfl, hT, hbw⟩ := hrel
  obtain ⟨N, hN⟩ : ∃ N, N = m + 1 := ⟨_, rfl⟩
  rw [← hN]
  by_cases hlt : m < 15
  ·have hN15 : (N : Int) ≤ 15 := by omega
   have hN15n : N ≤ 15 := by omega
   have hN1 : 1 ≤ N := by omega
   have hsm := symN_len l m
   have hsm2 : m * l.length ≤ 15 * 300 := Nat.mul_le_mul hm15 hm
   have hT0 : TreeAt wr w.heap.size g l (Huf.symN l m ++ idxTo l N 0) v := by simpa [idxTo] using hT
   have HN := Lib.hid hN
   clear hN hlt hT
   go_wp2_with fail
   go_loopw [24] (fun iv wx => ∃ (i : Nat) (v : Value), i ≤ l.length ∧ iv = .int .i64 i ∧ TreeAt wx w.heap.size g l (Huf.symN l m ++ idxTo l N i) v ∧ Below w.heap.size w wx) (fun iv _ => l.length - (intOf iv).toNat)
   case atStart => exact ⟨0, v, Nat.zero_le _, rfl, hT0, hbw⟩
   case round =>
    clear hT0 hbw
    obtain ⟨i, v1, hil, rfl, hT, hbw⟩ := hrel
    obtain ⟨wy, hwy⟩ : ∃ wy, wy = wr := ⟨_, rfl⟩
    rw [← hwy] at hT hbw ⊢
    clear hwy
    obtain ⟨SY, hSY⟩ : ∃ SY, SY = Huf.symN l m ++ idxTo l N i := ⟨_, rfl⟩
    have hsl : SY.length ≤ 4800 := by
     have := idxTo_len l N i
     rw [hSY, List.length_append]
     omega
    rw [← hSY] at hT
    have HSY := Lib.hid hSY
    clear hSY
    by_cases hil2 : i < l.length
    ·obtain ⟨gl, ol, rfl, hgl⟩ := hr.addr (by omega)
     have hcell := (hr.below hbw hB).cell rfl i (by rw [Nat.mul_one]; exact hil2)
     rw [nats_at _ _ hil2] at hcell
     obtain ⟨x, hx⟩ : ∃ x, x = l[i] := ⟨_, rfl⟩
     rw [← hx] at hcell
     have hsu := idxTo_succ l N i
     rw [List.getElem?_eq_getElem hil2, ← hx] at hsu
     have HSU := Lib.hid hsu
     clear hsu hx
     by_cases hxN : x = N
     ·obtain ⟨A1, c1, rfl, hc1, hrr⟩ := hT.own.form
      have d16 := hT.sy
      have f16 := hT.blk.free 16
      have gl2 := hT.blk.lt
      have nA : some g ≠ (Value.slice A1 SY.length c1).ownBlock := fun e => hT.ne e.symm
      have hq : ((x : Int) == N) = true := by rw [beq_iff_eq]; omega
      have HXN := Lib.hid hxN
      obtain ⟨n1, hn1⟩ : ∃ n1, n1 = SY.length := ⟨_, rfl⟩
      have hown := hT.own
      have hblk := hT.blk
      have hwz := hbw.size
      have hT9 := Lib.hid hT.bg
      rw [← hn1] at d16 nA hown hblk hsl
      have HN1 := Lib.hid hn1
      clear hxN hn1 hT hrr hc1
      go_wp2_with (at_builtin; refine wpList_append_S rfl (.tmp 36) (.tmp 38) 119 119 rfl (w.heap.size) 3 i0 (.int .i64 0) 1 8 Tryz.underlying119 hi hz0 hz1 hz2 rfl (by decide) (.slice A1 n1 c1) (n1) (nats (SY)) rfl (hown.alloc _) (nats_one _) (1) ([.int .i64 i]) (Src.made Tryz.underlying119 (by first | rfl | simp) rfl (by intro u hu; cases List.mem_singleton.1 hu; rfl)) (n1 + 1) (by omega) (nats (SY ++ [i])) (by rw [nats_append]; rfl) (by unfold maxLen; omega) (by omega) (by first | omega | (simp; done) | (simp; omega)) ?_; intro A' c' w4 hown4 hg4 hat4; have B4 : Blk w4 g 283 (counts16 l ++ [Value.slice A1 n1 c1]).toArray := (hblk.alloc _).grown hg4 nA; have q0 := B4.free 16; have e0 : w4.cell? ⟨g, 16, none⟩ = some (.slice A1 n1 c1) := (by rw [B4.cell]; simp [counts16_length]))
      have hsu := HSU.out
      rw [if_pos (by rw [HXN.out])] at hsu
      have hfr : (Value.slice A' (n1 + 1) c').ownBlock = (Value.slice A1 n1 c1).ownBlock ∨ ∀ y, (Value.slice A' (n1 + 1) c').ownBlock = some y → wy.heap.size ≤ y := by
       rcases hat4 with e | e
       ·exact .inl e
       ·refine .inr fun y hy => ?_
        rw [e] at hy
        injection hy with hy
        simp at hy
        omega
      have nq : (Value.slice A' (n1 + 1) c').ownBlock ≠ some g := by
       intro e
       rcases hfr with e2 | e2
       ·exact nA (by rw [← e2, e])
       ·have := e2 g e
        omega
      have hT4 : TreeAt (w4.setCell ⟨g, 16, none⟩ (.slice A' (n1 + 1) c')) w.heap.size g l (SY ++ [i]) (.slice A' (n1 + 1) c') := by
       refine ⟨?_, ?_, nq, hT9.out⟩
       ·have h1 := B4.set_ 16 (.slice A' (n1 + 1) c')
        have e : (counts16 l ++ [Value.slice A1 n1 c1]).set 16 (.slice A' (n1 + 1) c') = counts16 l ++ [Value.slice A' (n1 + 1) c'] := by
         rw [List.set_append_right _ _ (by rw [counts16_length]; exact Nat.le_refl _), counts16_length]
         rfl
        rw [← e]
        simpa using h1
       ·have e : (SY ++ [i]).length = n1 + 1 := by rw [List.length_append, ← HN1.out]; rfl
        rw [e]
        exact hown4.setCell (p := ⟨g, 16, none⟩) nq _
      have hb4 : Below w.heap.size w (w4.setCell ⟨g, 16, none⟩ (.slice A' (n1 + 1) c')) := (Below.grown (hbw.alloc hwz _) hg4 (by simp; omega) (fun y hy => (hown.lt y hy).1)).setCell (p := ⟨g, 16, none⟩) hT9.out _
      have HT4 := Lib.hid hT4
      have HB4 := Lib.hid hb4
      have HS4 := Lib.hid hsu
      clear hT4 hb4 hsu
      go_wp2_with fail
      go_roundw
      case rel => exact ⟨i + 1, .slice A' (n1 + 1) c', hil2, by go_num, by rw [HS4.out, ← List.append_assoc, ← HSY.out]; exact HT4.out, HB4.out⟩
      case measure => simp [intOf]; omega
     ·have hq : ((x : Int) == N) = false := by rw [beq_eq_false_iff_ne]; omega
      have hsu := HSU.out
      rw [if_neg (by intro e; exact hxN (Option.some.inj e)), List.append_nil] at hsu
      have HS3 := Lib.hid hsu
      clear hsu hxN
      go_wp2_with fail
      go_roundw
      case rel => exact ⟨i + 1, v1, hil2, by go_num, by rw [HS3.out, ← HSY.out]; exact hT, hbw⟩
      case measure => simp [intOf]; omega
    ·have hie : i = l.length := by omega
     have hSN : Huf.symN l N = SY := by rw [HSY.out, hie, idxTo_end, HN.out, Huf.symN]
     have HSN := Lib.hid hSN
     clear hSN hie
     go_wp2_with fail
     go_roundw
     case rel => exact ⟨N, v1, hN15n, by go_num, by rw [HSN.out]; exact hT, hbw⟩
     case measure => have := HN.out; simp [intOf]; omega
  ·have hm2 : m = 15 := by omega
   subst hm2
   have hN16 : (15 : Int) < N := by omega
   clear hlt hN
   go_wp2_with fail
   go_ret2
   exact ⟨g, v, rfl, hT, hbw⟩
theorem hread_bad (B n c : Nat) (A : Option Addr) (l : List Nat) (E : Nat → Addr) (w : World) (hE : Er4 w E) (hr : Reads w B 1 A n (nats l)) (hB : B ≤ w.heap.size) (h15 : ∀ x ∈ l, x ≤ 15) (hg : ¬ Huf.Good l) (hm : l.length ≤ 300) :
  Calls Tryz.prog 177 #[.slice A n c] w fun e w' => e = .returned (.tuple #[.pointer none, errV (E 2)]) ∧ Below w.heap.size w w' := by
 have hn : n = l.length := by have := hr.1; rw [nats_length] at this; omega
 subst hn
 have hv : validV l (errV (E 2)) = errV (E 2) := by unfold validV; rw [if_neg hg]
 have hve : errV (E 2) = .iface 290 (.pointer (some (E 2))) := rfl
 go_enter Tryz.func177, Tryz.ntmps177
 go_wp2_with fail
 refine (valid_any B l.length c A l E _ hE.ers hr hB h15 hm).mono ?_
 rw [hv, hve]
 rintro e w1 ⟨rfl, hb1⟩
 go_wp2_with fail
 go_ret2
 exact ⟨rfl, hb1⟩
end Go.Proofs.YtkegkelaffohjaaGreatDoor
