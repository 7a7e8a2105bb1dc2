/- Mem, PixLaw: put together. -/
import Derived.Below
import Derived.Laws.OwnMore
import Derived.Deep.AppendSrc
import Derived.Deep.Upon
import Derived.Deep.AppendLies
import Derived.Deep.Draws
import Derived.Deep.MidRow
import Derived.Maps.AppendAt
import Derived.RegionTactic
import Derived.OwnWalk
import Derived.Deep.RegionHeld
/- Pixels as plain data: four bytes. Words for memory, of no program: a slice that reads as cells (Reads), a slice of the call's own, at whatever offset (Own), append onto it from whatever source; how both go on through draws, new blocks, stores elsewhere. More on sources of an append. A row of numbers of the call's own, told by a function. Stores of several cells. What a writing call leaves as it was. -/
namespace Go.Proofs.YtkegkelaffohjaaGreatDoor
structure Px where
 r : UInt8
 g : UInt8
 b : UInt8
 a : UInt8
theorem Px.ext' {x y : Px} (h1 : x.r = y.r) (h2 : x.g = y.g) (h3 : x.b = y.b) (h4 : x.a = y.a) : x = y := by
 cases x; cases y; simp_all
instance : DecidableEq Px := fun x y =>
 if h : x.r = y.r ∧ x.g = y.g ∧ x.b = y.b ∧ x.a = y.a then .isTrue (Px.ext' h.1 h.2.1 h.2.2.1 h.2.2.2) else .isFalse (by rintro rfl; simp at h)
instance : Inhabited Px := ⟨⟨0, 0, 0, 0⟩⟩
end Go.Proofs.YtkegkelaffohjaaGreatDoor
namespace Go.Proofs.YtkegkelaffohjaaGreatDoor
open Go Go.RowKit
theorem add_of_add (a : Addr) (i j : Nat) : (a.add i).add j = a.add (i + j) := by
 unfold Addr.add
 by_cases hi : i = 0 <;> by_cases hj : j = 0 <;> simp [hi, hj, Nat.add_assoc]
theorem add_lit (b o j : Nat) : (⟨b, o, none⟩ : Addr).add j = ⟨b, o + j, none⟩ := by unfold Addr.add; split <;> simp_all
theorem below_drewN {B : Nat} {a w : World} (h : Below B a w) (n : Nat) : Below B a (w.drewN n) := ⟨h.os, h.tape, h.output, h.size, h.block⟩
theorem cell_lt {w : World} {a : Addr} {u : Value} (h : w.cell? a = some u) : a.block < w.heap.size := World.block_lt_of_cell? w a h
def Reads (w : World) (B size : Nat) (A : Option Addr) (n : Nat) (xs : List Value) : Prop :=
 xs.length = n * size ∧ (0 < n * size → ∃ b off, A = some ⟨b, off, none⟩ ∧ b < B ∧ ∀ j u, xs[j]? = some u → w.cell? ⟨b, off + j, none⟩ = some u)
section
variable {w w' : World} {B B' size n : Nat} {A : Option Addr} {xs : List Value}
theorem Reads.none_ : Reads w B size A 0 [] := ⟨by simp, fun h => absurd h (by omega)⟩
theorem Reads.keep (h : Reads w B size A n xs) (hk : ∀ p : Addr, p.block < B → w'.cell? p = w.cell? p) : Reads w' B size A n xs :=
 ⟨h.1, fun hn => by
  obtain ⟨b, off, e, hb, hc⟩ := h.2 hn
  exact ⟨b, off, e, hb, fun j u hu => (hk _ hb).trans (hc j u hu)⟩⟩
theorem Reads.more (h : Reads w B size A n xs) (hB : B ≤ B') : Reads w B' size A n xs :=
 ⟨h.1, fun hn => by
  obtain ⟨b, off, e, hb, hc⟩ := h.2 hn
  exact ⟨b, off, e, by omega, hc⟩⟩
theorem Reads.below (h : Reads w B size A n xs) {C : Nat} (hb : Below C w w') (hC : B ≤ C) : Reads w' B size A n xs := h.keep fun _ hp => hb.cell (by omega)
theorem Reads.drew (h : Reads w B size A n xs) : Reads w.drew B size A n xs := h
theorem Reads.alloc (h : Reads w B size A n xs) (hB : B ≤ w.heap.size) (o : Obj) : Reads (w.alloc o) B size A n xs := h.keep fun p hp => World.cell?_alloc_lt w o p (by omega)
theorem Reads.setCell (h : Reads w B size A n xs) {p : Addr} (hB : B ≤ p.block) (u : Value) : Reads (w.setCell p u) B size A n xs :=
 h.keep fun q hq => World.cell?_setCell_other w p q u (fun e => by subst e; omega)
theorem Reads.cut (h : Reads w B size A n xs) {k cap : Nat} (hk : k ≤ n) (hc : n ≤ cap) :
  Reads w B size (if cap = k then A else A.map (·.add (k * size))) (n - k) (xs.drop (k * size)) := by
 refine ⟨by rw [List.length_drop, h.1, Nat.sub_mul], fun hn => ?_⟩
 have hpos : 0 < n * size := by
  rcases Nat.eq_zero_or_pos (n * size) with h0 | h0
  ·rw [Nat.sub_mul] at hn; omega
  ·exact h0
 obtain ⟨b, off, rfl, hb, hcell⟩ := h.2 hpos
 have hne : cap ≠ k := by
  rintro rfl
  have : n = cap := by omega
  subst this
  simp at hn
 rw [if_neg hne]
 refine ⟨b, off + k * size, by simp [add_lit], hb, fun j u hu => ?_⟩
 rw [Nat.add_assoc]
 exact hcell _ u (by rw [← hu, List.getElem?_drop])
theorem Reads.take (h : Reads w B size A n xs) {k : Nat} (hk : k ≤ n) : Reads w B size A k (xs.take (k * size)) := by
 have hle : k * size ≤ n * size := Nat.mul_le_mul_right _ hk
 refine ⟨by rw [List.length_take, h.1]; omega, fun hn => ?_⟩
 obtain ⟨b, off, rfl, hb, hcell⟩ := h.2 (by omega)
 refine ⟨b, off, rfl, hb, fun j u hu => hcell j u ?_⟩
 rw [List.getElem?_take] at hu
 split at hu
 ·exact hu
 ·cases hu
theorem Reads.cell (h : Reads w B size A n xs) {b off : Nat} (hA : A = some ⟨b, off, none⟩) (j : Nat) (hj : j < n * size) : w.cell? ⟨b, off + j, none⟩ = xs[j]? := by
 obtain ⟨b', off', e, _, hc⟩ := h.2 (by omega)
 rw [hA] at e
 injection e with e
 injection e with e1 e2
 subst e1; subst e2
 have hl : j < xs.length := by rw [h.1]; exact hj
 rw [List.getElem?_eq_getElem hl]
 exact hc j _ (List.getElem?_eq_getElem hl)
theorem Reads.addr (h : Reads w B size A n xs) (hn : 0 < n * size) : ∃ b off, A = some ⟨b, off, none⟩ ∧ b < B := by
 obtain ⟨b, off, e, hb, _⟩ := h.2 hn
 exact ⟨b, off, e, hb⟩
theorem Reads.src {P : Program} {tx e' : TypeId} (hk : P.underlying tx = some (.slice e')) (h : Reads w B size A n xs) (hs : 0 < size) (h1 : ∀ u ∈ xs, u.oneCell' = true) (c : Nat) : Src P size tx (.slice A n c) n xs w := by
 rcases Nat.eq_zero_or_pos n with h0 | h0
 ·subst h0
  have hx : xs = [] := List.eq_nil_of_length_eq_zero (by simpa using h.1)
  subst hx
  cases A with
  | none => exact Src.ofNil w hk c
  | some a => exact Src.ofSlice w hk a 0 c [] (by simp) (fun j u hu => by simp at hu) (fun u hu => by cases hu)
 ·obtain ⟨b, off, rfl, _, hc⟩ := h.2 (Nat.mul_pos h0 hs)
  exact Src.ofSlice w hk ⟨b, off, none⟩ n c xs h.1 (fun j u hu => by rw [add_lit]; exact hc j u hu) h1
end
def Own (w : World) (base size : Nat) (v : Value) (n : Nat) (xs : List Value) : Prop :=
 xs.length = n * size ∧
 ((v = .slice none 0 0 ∧ n = 0) ∨
  ∃ g off cap, v = .slice (some ⟨g, off, none⟩) n cap ∧ base ≤ g ∧ g < w.heap.size ∧ n ≤ cap ∧ cap ≤ maxLen ∧
   (∀ j, j < n * size → w.cell? ⟨g, off + j, none⟩ = xs[j]?) ∧ ∀ j, j < cap * size → (w.cell? ⟨g, off + j, none⟩).isSome = true ∧ w.frozen? ⟨g, off + j, none⟩ = false)
section
variable {w w' : World} {base size n : Nat} {v : Value} {xs : List Value}
theorem Own.nil (w : World) (base size : Nat) : Own w base size (.slice none 0 0) 0 [] := ⟨by simp, .inl ⟨rfl, rfl⟩⟩
theorem Own.of_row {e : TypeId} (h : w.ownsRow base e size v n xs) : Own w base size v n xs := by
 refine ⟨h.1, ?_⟩
 rcases h.2 with h0 | ⟨g, cap, cur, rfl, hb, hg, hn, hm, hs, ht⟩
 ·exact .inl h0
 ·refine .inr ⟨g, 0, cap, rfl, hb, (Array.getElem?_eq_some_iff.1 hg).1, hn, hm, fun j hj => ?_, fun j hj => ?_⟩
  ·rw [cell_of_row w g (0 + j) cur e (0, 0) hg, Nat.zero_add, ← ht, List.getElem?_take, if_pos hj]
   simp
  ·rw [cell_of_row w g (0 + j) cur e (0, 0) hg, Nat.zero_add]
   refine ⟨by simp [hs, hj], ?_⟩
   simp [World.frozen?, hg]
theorem Own.lt (h : Own w base size v n xs) : ∀ k, v.ownBlock = some k → base ≤ k ∧ k < w.heap.size := by
 intro k hk
 rcases h.2 with ⟨rfl, _⟩ | ⟨g, off, cap, rfl, hb, hg, _⟩
 ·simp [Value.ownBlock] at hk
 ·simp [Value.ownBlock] at hk
  subst hk
  exact ⟨hb, hg⟩
theorem Own.keep (h : Own w base size v n xs) (hs : w.heap.size ≤ w'.heap.size) (hc : ∀ g, v.ownBlock = some g → w'.heap[g]? = w.heap[g]?) : Own w' base size v n xs := by
 refine ⟨h.1, ?_⟩
 rcases h.2 with h0 | ⟨g, off, cap, rfl, hb, hg, hn, hm, hx, hf⟩
 ·exact .inl h0
 ·have e := hc g rfl
  refine .inr ⟨g, off, cap, rfl, hb, by omega, hn, hm, fun j hj => ?_, fun j hj => ?_⟩
  ·rw [World.cell?_of_block (a := ⟨g, off + j, none⟩) e]; exact hx j hj
  ·rw [World.cell?_of_block (a := ⟨g, off + j, none⟩) e, World.frozen?_of_block (a := ⟨g, off + j, none⟩) e]; exact hf j hj
theorem Own.kept {row : Option Nat} (h : Own w base size v n xs) (hg : w.grownBy w' row) (hne : v.ownBlock = none ∨ v.ownBlock ≠ row) : Own w' base size v n xs :=
 h.keep hg.size fun g hv => hg.block g (h.lt g hv).2 (by
  rcases hne with h0 | h0
  ·rw [h0] at hv; cases hv
  ·rw [← hv]; exact h0)
theorem Own.drew (h : Own w base size v n xs) : Own w.drew base size v n xs := h
theorem Own.drewN (h : Own w base size v n xs) (k : Nat) : Own (w.drewN k) base size v n xs := h
theorem Own.alloc (h : Own w base size v n xs) (o : Obj) : Own (w.alloc o) base size v n xs :=
 h.keep (by simp) fun g hv => heap_alloc_old w o g (h.lt g hv).2
theorem Own.setCell (h : Own w base size v n xs) {p : Addr} (hp : v.ownBlock ≠ some p.block) (u : Value) : Own (w.setCell p u) base size v n xs :=
 h.keep (by simp [World.setCell]) fun g hv => Below.heap_setCell w p u g (fun e => hp (by rw [hv, e]))
theorem Own.below {B : Nat} (h : Own w base size v n xs) (hb : Below B w w') (hB : w.heap.size ≤ B) : Own w' base size v n xs :=
 h.keep hb.size fun g hv => hb.block g (by have := (h.lt g hv).2; omega)
theorem Own.mono {base' : Nat} (h : Own w base size v n xs) (hb : base' ≤ base) : Own w base' size v n xs := by
 refine ⟨h.1, ?_⟩
 rcases h.2 with h0 | ⟨g, off, cap, rfl, hb', hg, hn, hm, hx, hf⟩
 ·exact .inl h0
 ·exact .inr ⟨g, off, cap, rfl, by omega, hg, hn, hm, hx, hf⟩
theorem Own.form (h : Own w base size v n xs) : ∃ A c, v = .slice A n c ∧ n ≤ c ∧ Reads w w.heap.size size A n xs := by
 rcases h.2 with ⟨rfl, rfl⟩ | ⟨g, off, cap, rfl, hb, hg, hn, hm, hx, hf⟩
 ·have hx : xs = [] := List.eq_nil_of_length_eq_zero (by simpa using h.1)
  subst hx
  exact ⟨none, 0, rfl, Nat.le_refl _, Reads.none_⟩
 ·refine ⟨_, cap, rfl, hn, h.1, fun _ => ⟨g, off, rfl, hg, fun j u hu => ?_⟩⟩
  have hj : j < n * size := by rw [← h.1]; exact (List.getElem?_eq_some_iff.1 hu).1
  rw [hx j hj, hu]
theorem Own.reads {A : Option Addr} {m c : Nat} (h : Own w base size (.slice A m c) n xs) : m = n ∧ Reads w w.heap.size size A n xs := by
 obtain ⟨A', c', e, _, hr⟩ := h.form
 injection e with e1 e2 e3
 subst e1; subst e2
 exact ⟨rfl, hr⟩
theorem Own.take {A : Option Addr} {c k : Nat} (h : Own w base size (.slice A n c) n xs) (hk : k ≤ n) : Own w base size (.slice A k c) k (xs.take (k * size)) := by
 have hle : k * size ≤ n * size := Nat.mul_le_mul_right _ hk
 refine ⟨by rw [List.length_take, h.1]; omega, ?_⟩
 rcases h.2 with ⟨e, h0⟩ | ⟨g, off, cap, e, hb, hg, hn, hm, hx, hf⟩
 ·injection e with e1 e2 e3
  subst h0; subst e1; subst e3
  have : k = 0 := by omega
  subst this
  exact .inl ⟨rfl, rfl⟩
 ·injection e with e1 e2 e3
  subst e1; subst e3
  refine .inr ⟨g, off, c, rfl, hb, hg, by omega, hm, fun j hj => ?_, hf⟩
  rw [hx j (by omega), List.getElem?_take, if_pos hj]
theorem Own.drop {A : Option Addr} {c k : Nat} (h : Own w base size (.slice A n c) n xs) (hk : k ≤ n) :
  Own w base size (.slice (if c = k then A else A.map (·.add (k * size))) (n - k) (c - k)) (n - k) (xs.drop (k * size)) := by
 refine ⟨by rw [List.length_drop, h.1, Nat.sub_mul], ?_⟩
 rcases h.2 with ⟨e, h0⟩ | ⟨g, off, cap, e, hb, hg, hn, hm, hx, hf⟩
 ·injection e with e1 e2 e3
  subst h0; subst e1; subst e3
  have : k = 0 := by omega
  subst this
  exact .inl ⟨by simp, rfl⟩
 ·injection e with e1 e2 e3
  subst e1; subst e3
  by_cases hck : c = k
  ·subst hck
   rw [if_pos rfl]
   have h0 : n - c = 0 := by omega
   rw [h0, Nat.sub_self]
   exact .inr ⟨g, off, 0, rfl, hb, hg, Nat.le_refl _, Nat.zero_le _, fun j hj => by simp at hj, fun j hj => by simp at hj⟩
  ·rw [if_neg hck]
   refine .inr ⟨g, off + k * size, c - k, by simp [add_lit], hb, hg, by omega, by omega, fun j hj => ?_, fun j hj => ?_⟩
   ·have hlt : k * size + j < n * size := by rw [Nat.sub_mul] at hj; omega
    rw [Nat.add_assoc, hx _ hlt, List.getElem?_drop]
   ·have hlt : k * size + j < c * size := by rw [Nat.sub_mul] at hj; omega
    rw [Nat.add_assoc]
    exact hf _ hlt
end
theorem size_setCells (b : Nat) : ∀ (vs : List Value) (o : Nat) (w : World), (w.setCells b o vs).heap.size = w.heap.size
 | [], _, _ => rfl
 | v :: vs, o, w => by rw [World.setCells, size_setCells b vs]; simp [World.setCell]
theorem tape_setCells (b : Nat) : ∀ (vs : List Value) (o : Nat) (w : World), (w.setCells b o vs).tape = w.tape
 | [], _, _ => rfl
 | v :: vs, o, w => by rw [World.setCells, tape_setCells b vs]; rfl
section
variable {P : Program} (w : World)
theorem run_append_Own (base : Nat) (t tx ty e : TypeId) (i : TypeInfo) (z : Value) (size bytes : Nat) (ht : P.underlying t = some (.slice e)) (hi : P.info? e = some i) (hz : i.zero = some z)
  (hsize : i.size = size) (hby : i.bytes = bytes) (hzs : z.cells.size = size) (hsz : 0 < size)
  (v : Value) (n : Nat) (xs : List Value) (hown : Own w base size v n xs) (h1x : ∀ u ∈ xs, u.oneCell' = true) (x : Value) (m : Nat) (news : List Value) (hs : Src P size tx x m news w)
  (h63 : n + m ≤ maxLen) (hbytes : (n + m) * bytes ≤ 140737488355328) (hbase : base ≤ w.heap.size) :
  ∃ v' w', (Builtin.append_ #[t, tx] ty #[v, x]).run P w = .ok v' w' ∧ Own w' base size v' (n + m) (xs ++ news) ∧ w.grownBy w' v.ownBlock ∧
   (v'.ownBlock = v.ownBlock ∨ v'.ownBlock = some w.heap.size) := by
 subst hsize; subst hby
 have hnl := hs.newsLen
 have hlen : (xs ++ news).length = (n + m) * i.size := by rw [List.length_append, hown.1, hnl, Nat.add_mul]
 -- the arm that grows
 have grow : ∀ (A : Option Addr) (cap : Nat), v = .slice A n cap → cap < n + m →
   (Builtin.firstCells i.size n (.slice A n cap)).run P w.drew = .ok xs.toArray w.drew →
   ∃ v' w', (Builtin.append_ #[t, tx] ty #[v, x]).run P w = .ok v' w' ∧ Own w' base i.size v' (n + m) (xs ++ news) ∧ w.grownBy w' v.ownBlock ∧
    (v'.ownBlock = v.ownBlock ∨ v'.ownBlock = some w.heap.size) := by
  intro A cap hv hlt hfirst
  have hr := run_append_grow_src (P := P) w t tx ty e i z ht hi hz A n cap xs hfirst x m news hs hlt (by unfold maxLen at h63; omega) (growslice_fits (by omega) hbytes)
  rw [hv, hr]
  have hge := grownCap_ge w (n + m) cap e
  have hle := grownCap_le_maxLen w (n + m) cap e h63
  refine ⟨_, _, rfl, ?_, ?_, .inr rfl⟩
  ·refine ⟨hlen, .inr ⟨w.heap.size, 0, _, rfl, hbase, by simp, hge, hle, fun j hj => ?_, fun j hj => ?_⟩⟩
   ·have hb : (w.drew.alloc (.cells ((xs ++ news).toArray ++ Builtin.zeroCells z.cells (grownCap w (n + m) cap e - (n + m))) e)).heap[w.heap.size]? = some (.cells ((xs ++ news).toArray ++ Builtin.zeroCells z.cells (grownCap w (n + m) cap e - (n + m))) e (0, 0)) := heap_alloc_new w.drew _
    rw [cell_of_row _ w.heap.size (0 + j) _ e (0, 0) hb, Nat.zero_add, Array.getElem?_append_left (by simpa [hlen] using hj)]
    simp
   ·have hb : (w.drew.alloc (.cells ((xs ++ news).toArray ++ Builtin.zeroCells z.cells (grownCap w (n + m) cap e - (n + m))) e)).heap[w.heap.size]? = some (.cells ((xs ++ news).toArray ++ Builtin.zeroCells z.cells (grownCap w (n + m) cap e - (n + m))) e (0, 0)) := heap_alloc_new w.drew _
    rw [cell_of_row _ w.heap.size (0 + j) _ e (0, 0) hb, Nat.zero_add]
    refine ⟨?_, by simp only [World.frozen?]; rw [hb]; simp⟩
    have hsz' : ((xs ++ news).toArray ++ Builtin.zeroCells z.cells (grownCap w (n + m) cap e - (n + m))).size = grownCap w (n + m) cap e * i.size := by
     rw [Array.size_append, size_zeroCells, hzs, List.size_toArray, hlen, ← Nat.add_mul]
     congr 1
     omega
    simp only [Array.getElem?_eq_getElem (show j < _ by rw [hsz']; exact hj)]
    rfl
  ·exact ⟨rfl, rfl, rfl, by simp, fun k hk _ => heap_alloc_old w.drew _ k hk⟩
 rcases hown.2 with ⟨hv, h0⟩ | ⟨g, off, cap, hv, hb, hg, hn, hm, hx, hf⟩
 ·subst h0
  have hx0 : xs = [] := List.eq_nil_of_length_eq_zero (by simpa using hown.1)
  rcases Nat.eq_zero_or_pos m with hm0 | hm0
  ·subst hm0
   have hn0 : news = [] := List.eq_nil_of_length_eq_zero (by simpa using hnl)
   subst hn0; subst hx0
   refine ⟨v, w, ?_, by simpa using hown, World.grownBy.refl w _, .inl rfl⟩
   subst hv
   rcases hs.kind with ⟨e', hk⟩ | hk <;> simp [Builtin.append_, run_underlying ht, run_underlying hk, sizeOf, typeInfo, hi, hs.len, hs.cells]
  ·subst hx0
   exact grow none 0 hv (by omega) (run_firstCells_none w.drew i.size 0 0 0)
 ·by_cases hroom : n + m ≤ cap
  ·have hmul : (n + m) * i.size ≤ cap * i.size := Nat.mul_le_mul_right _ hroom
   rw [Nat.add_mul] at hmul
   have hthere : ∀ j, j < news.length → (w.cell? ⟨g, off + n * i.size + j, none⟩).isSome = true ∧ w.frozen? ⟨g, off + n * i.size + j, none⟩ = false := fun j hj => by
    have := hf (n * i.size + j) (by omega)
    rwa [← Nat.add_assoc] at this
   have hr := run_append_room_src (P := P) w t tx ty e i ht hi g off n cap x m news hs hroom (fun j hj => (hthere j hj).1) (fun j hj => (hthere j hj).2)
   rw [hv, hr]
   refine ⟨_, _, rfl, ⟨hlen, .inr ⟨g, off, cap, rfl, hb, ?_, hroom, hm, fun j hj => ?_, fun j hj => ?_⟩⟩, ?_, .inl rfl⟩
   ·rw [size_setCells]; exact hg
   ·rcases Nat.lt_or_ge j (n * i.size) with hlt | hge
    ·rw [World.cell?_setCells_out g news _ w ⟨g, off + j, none⟩ (fun _ _ => .inl (by show off + j < _; omega)), hx j hlt, List.getElem?_append_left (by rw [hown.1]; exact hlt)]
    ·obtain ⟨k, rfl⟩ : ∃ k, j = n * i.size + k := ⟨j - n * i.size, by omega⟩
     have hk : k < news.length := by rw [hnl]; rw [Nat.add_mul] at hj; omega
     have := World.cell?_setCells_in g news (off + n * i.size) w (fun j hj => (hthere j hj).1) k hk
     rw [← Nat.add_assoc, this, List.getElem?_append_right (by rw [hown.1]; omega), hown.1, Nat.add_sub_cancel_left, List.getElem?_eq_getElem hk]
   ·refine ⟨World.isSome_setCells g news _ w _ (hf j hj).1, ?_⟩
    rw [World.frozen?_setCells]
    exact (hf j hj).2
   ·refine ⟨World.os_setCells w g _ news, tape_setCells g news _ w, World.output_setCells w g _ news, by rw [size_setCells]; exact Nat.le_refl _, fun k hk hne => ?_⟩
    exact World.heap_setCells_other w g _ news hk (fun e => hne (by simp [Value.ownBlock, e]))
  ·refine grow _ cap hv (by omega) ?_
   refine run_firstCells_some (P := P) w.drew i.size n ⟨g, off, none⟩ n cap xs hown.1 (fun j u hu => ?_)
   rw [add_lit]
   have hj : j < n * i.size := by rw [← hown.1]; exact (List.getElem?_eq_some_iff.1 hu).1
   show w.cell? _ = _
   rw [hx j hj, hu]
theorem wp_append_Own {o : Oper} {a : Act} {K : Act → World → Prop} {Q : Exit → Act → World → Prop} (s x : Operand) (t tx : TypeId)
  (ho : o.op = .call { callee := .builtin .append, args := #[s, x], argTypes := #[t, tx] })
  (base : Nat) (e : TypeId) (i : TypeInfo) (z : Value) (size bytes : Nat) (ht : P.underlying t = some (.slice e)) (hi : P.info? e = some i) (hz : i.zero = some z)
  (hsize : i.size = size) (hby : i.bytes = bytes) (hzs : z.cells.size = size) (hsz : 0 < size)
  (v : Value) (n : Nat) (xs : List Value) (hs : a.eval s = v) (hown : Own w base size v n xs) (h1x : ∀ u ∈ xs, u.oneCell' = true)
  (m : Nat) (news : List Value) (hr : Src P size tx (a.eval x) m news w)
  (h63 : n + m ≤ maxLen) (hbytes : (n + m) * bytes ≤ 140737488355328) (hbase : base ≤ w.heap.size)
  (h : ∀ v' w', Own w' base size v' (n + m) (xs ++ news) → w.grownBy w' v.ownBlock → (v'.ownBlock = v.ownBlock ∨ v'.ownBlock = some w.heap.size) → K (a.put o.dst v') w') : o.wp P a w K Q := by
 obtain ⟨v', w', hrun, h2, h3, h4⟩ := run_append_Own (P := P) w base t tx o.type e i z size bytes ht hi hz hsize hby hzs hsz v n xs hown h1x _ m news hr h63 hbytes hbase
 unfold Oper.wp execOp
 simp only [ho, resolve, invoke, builtin, Sem.run_bind, Sem.run_pure, Result.andThen_ok, List.map_toArray, List.map_cons, List.map_nil, hs, hrun]
 exact h v' w' h2 h3 h4
theorem wpList_append_Own {ops : Array Oper} {rest : List Oper} {o : Oper} {a : Act} {Q : Exit → Act → World → Prop} (hgd : o.guard = none) (s x : Operand) (t tx : TypeId)
  (ho : o.op = .call { callee := .builtin .append, args := #[s, x], argTypes := #[t, tx] })
  (base : Nat) (e : TypeId) (i : TypeInfo) (z : Value) (size bytes : Nat) (ht : P.underlying t = some (.slice e)) (hi : P.info? e = some i) (hz : i.zero = some z)
  (hsize : i.size = size) (hby : i.bytes = bytes) (hzs : z.cells.size = size) (hsz : 0 < size)
  (v : Value) (n : Nat) (xs : List Value) (hs : a.eval s = v) (hown : Own w base size v n xs) (h1x : ∀ u ∈ xs, u.oneCell' = true)
  (m : Nat) (news : List Value) (hr : Src P size tx (a.eval x) m news w)
  (h63 : n + m ≤ maxLen) (hbytes : (n + m) * bytes ≤ 140737488355328) (hbase : base ≤ w.heap.size)
  (h : ∀ v' w', Own w' base size v' (n + m) (xs ++ news) → w.grownBy w' v.ownBlock → (v'.ownBlock = v.ownBlock ∨ v'.ownBlock = some w.heap.size) → wpList P ops Q rest (a.put o.dst v') w') : wpList P ops Q (o :: rest) a w :=
 wpList_plain hgd fun _ hK => wp_append_Own w s x t tx ho base e i z size bytes ht hi hz hsize hby hzs hsz v n xs hs hown h1x m news hr h63 hbytes hbase fun v' w' h2 h3 h4 => hK _ _ (h v' w' h2 h3 h4)
theorem step_append_Own {ops : Array Oper} {o : Oper} {a : Act} {K : Act → World → Prop} {Q : Exit → Act → World → Prop} {E : Prop} (hgd : o.guard = none) (s x : Operand) (t tx : TypeId)
  (ho : o.op = .call { callee := .builtin .append, args := #[s, x], argTypes := #[t, tx] })
  (base : Nat) (e : TypeId) (i : TypeInfo) (z : Value) (size bytes : Nat) (ht : P.underlying t = some (.slice e)) (hi : P.info? e = some i) (hz : i.zero = some z)
  (hsize : i.size = size) (hby : i.bytes = bytes) (hzs : z.cells.size = size) (hsz : 0 < size)
  (v : Value) (n : Nat) (xs : List Value) (hs : a.eval s = v) (hown : Own w base size v n xs) (h1x : ∀ u ∈ xs, u.oneCell' = true)
  (m : Nat) (news : List Value) (hr : Src P size tx (a.eval x) m news w)
  (h63 : n + m ≤ maxLen) (hbytes : (n + m) * bytes ≤ 140737488355328) (hbase : base ≤ w.heap.size)
  (h : ∀ v' w', Own w' base size v' (n + m) (xs ++ news) → w.grownBy w' v.ownBlock → (v'.ownBlock = v.ownBlock ∨ v'.ownBlock = some w.heap.size) → K (a.put o.dst v') w') :
  if Region.wanted o (yielded ops a.tmps) = true then Oper.wp P o a w K Q else E := by
 have hw : Region.wanted o (yielded ops a.tmps) = true := by simp [Region.wanted, hgd]
 rw [if_pos hw]
 exact wp_append_Own w s x t tx ho base e i z size bytes ht hi hz hsize hby hzs hsz v n xs hs hown h1x m news hr h63 hbytes hbase h
end
/-! ### pixels in memory -/
def pxCs (p : Px) : List Value := [.int .u8 p.r.toNat, .int .u8 p.g.toNat, .int .u8 p.b.toNat, .int .u8 p.a.toNat]
def pxV (p : Px) : Value := .agg #[.int .u8 p.r.toNat, .int .u8 p.g.toNat, .int .u8 p.b.toNat, .int .u8 p.a.toNat]
def pxCells (l : List Px) : List Value := l.flatMap pxCs
theorem pxCells_length (l : List Px) : (pxCells l).length = l.length * 4 := by
 induction l with
 | nil => rfl
 | cons p l ih => simp only [pxCells, List.flatMap_cons, List.length_append] at ih ⊢; rw [ih]; simp [pxCs]; omega
theorem pxCells_append (l m : List Px) : pxCells (l ++ m) = pxCells l ++ pxCells m := by simp [pxCells]
theorem pxCells_cons (p : Px) (l : List Px) : pxCells (p :: l) = pxCs p ++ pxCells l := by simp [pxCells]
theorem pxCells_one (l : List Px) : ∀ u ∈ pxCells l, u.oneCell' = true := by
 intro u hu
 obtain ⟨p, _, hp⟩ := List.mem_flatMap.1 hu
 simp only [pxCs, List.mem_cons, List.not_mem_nil, or_false] at hp
 rcases hp with rfl | rfl | rfl | rfl <;> rfl
theorem pxCells_at (l : List Px) : ∀ (k : Nat) (hk : k < l.length) (j : Nat), j < 4 → (pxCells l)[k * 4 + j]? = (pxCs l[k])[j]? := by
 induction l with
 | nil => intro k hk; simp at hk
 | cons p l ih =>
  intro k hk j hj
  rw [pxCells_cons]
  rcases k with _ | k
  ·rw [Nat.zero_mul, Nat.zero_add, List.getElem?_append_left (by simpa [pxCs] using hj)]
   rfl
  ·rw [List.getElem?_append_right (by simp [pxCs]; omega)]
   have e : (k + 1) * 4 + j - (pxCs p).length = k * 4 + j := by simp [pxCs]; omega
   rw [e, ih k (by simpa using hk) j hj]
   rfl
theorem Reads.px {w : World} {B n b off : Nat} {l : List Px} (h : Reads w B 4 (some ⟨b, off, none⟩) n (pxCells l)) (k : Nat) (hk : k < l.length) :
  w.cell? ⟨b, off + k * 4, none⟩ = some (.int .u8 l[k].r.toNat) ∧ w.cell? ⟨b, off + k * 4 + 1, none⟩ = some (.int .u8 l[k].g.toNat) ∧
  w.cell? ⟨b, off + k * 4 + 2, none⟩ = some (.int .u8 l[k].b.toNat) ∧ w.cell? ⟨b, off + k * 4 + 3, none⟩ = some (.int .u8 l[k].a.toNat) := by
 have hn : n * 4 = l.length * 4 := by rw [← h.1, pxCells_length]
 have key : ∀ j, j < 4 → w.cell? ⟨b, off + k * 4 + j, none⟩ = (pxCs l[k])[j]? := fun j hj => by
  rw [Nat.add_assoc, h.cell rfl _ (by omega), pxCells_at l k hk j hj]
 exact ⟨key 0 (by omega), key 1 (by omega), key 2 (by omega), key 3 (by omega)⟩
theorem Reads.pxLen {w : World} {B n : Nat} {A : Option Addr} {l : List Px} (h : Reads w B 4 A n (pxCells l)) : n = l.length := by
 have := h.1
 rw [pxCells_length] at this
 omega
/-! ### numbers in memory -/
def ints (l : List Int) : List Value := l.map (Value.int .i64)
theorem ints_length (l : List Int) : (ints l).length = l.length := by simp [ints]
theorem ints_one (l : List Int) : ∀ u ∈ ints l, u.oneCell' = true := by
 intro u hu
 obtain ⟨p, _, rfl⟩ := List.mem_map.1 hu
 rfl
theorem ints_at (l : List Int) (k : Nat) (hk : k < l.length) : (ints l)[k]? = some (.int .i64 l[k]) := by simp [ints, hk]
theorem Src.new {P : Program} {tx e' : TypeId} (hk : P.underlying tx = some (.slice e')) (w : World) (cs : List Value) (t : TypeId) (size m c : Nat) (hl : cs.length = m * size) (h1 : ∀ u ∈ cs, u.oneCell' = true) :
  Src P size tx (.slice (some ⟨w.heap.size, 0, none⟩) m c) m cs (w.alloc (.cells cs.toArray t)) :=
 Src.ofSlice _ hk ⟨w.heap.size, 0, none⟩ m c cs hl (fun j u hu => by
  rw [add_lit, cell_of_row _ w.heap.size (0 + j) cs.toArray t (0, 0) ((heap_alloc_new w _)), Nat.zero_add]
  simpa using hu) h1
end Go.Proofs.YtkegkelaffohjaaGreatDoor
namespace Go.Proofs.YtkegkelaffohjaaGreatDoor
open Go Go.RowKit
theorem Src.made {P : Program} {tx e' : TypeId} (hk : P.underlying tx = some (.slice e')) {w : World} {cs : List Value} {t : TypeId} {size m c g : Nat} (hg : g = w.heap.size) (hl : cs.length = m * size) (h1 : ∀ u ∈ cs, u.oneCell' = true) :
  Src P size tx (.slice (some ⟨g, 0, none⟩) m c) m cs (w.alloc (.cells cs.toArray t)) := by
 subst hg
 exact Src.new hk w cs t size m c hl h1
theorem cell_made (w : World) (cs : Array Value) (t : TypeId) {g j : Nat} {u : Value} (hg : g = w.heap.size) (hu : cs[j]? = some u) : (w.alloc (.cells cs t)).cell? ⟨g, j, none⟩ = some u := by
 subst hg
 rw [cell_of_row _ w.heap.size j cs t (0, 0) (heap_alloc_new w _), hu]
theorem cell_past {w : World} (o : Obj) {a : Addr} {u : Value} (h : w.cell? a = some u) : (w.alloc o).cell? a = some u := by
 rw [World.cell?_alloc_lt w o a (cell_lt h), h]
theorem free_past {w : World} (o : Obj) {a : Addr} (hl : a.block < w.heap.size) (h : w.frozen? a = false) : (w.alloc o).frozen? a = false := by
 rw [World.frozen?_alloc_old w o a (Nat.ne_of_lt hl), h]
theorem cell_set_other {w : World} {a b : Addr} (v : Value) {u : Value} (hne : a ≠ b) (h : w.cell? b = some u) : (w.setCell a v).cell? b = some u := by
 rw [World.cell?_setCell_other w a b v hne, h]
theorem bcell_ {B : Nat} {w w' : World} (h : Below B w w') {p : Addr} {u : Value} (hp : p.block < B) (hc : w.cell? p = some u) : w'.cell? p = some u := (h.cell hp).trans hc
theorem bkeep {w w' : World} (h : Below w.heap.size w w') {p : Addr} {u : Value} (hc : w.cell? p = some u) : w'.cell? p = some u := bcell_ h (cell_lt hc) hc
theorem wpList_append_S {P : Program} {w : World} {ops : Array Oper} {rest : List Oper} {o : Oper} {a : Act} {Q : Exit → Act → World → Prop} (hgd : o.guard = none) (s x : Operand) (t tx : TypeId)
  (ho : o.op = .call { callee := .builtin .append, args := #[s, x], argTypes := #[t, tx] })
  (base : Nat) (e : TypeId) (i : TypeInfo) (z : Value) (size bytes : Nat) (ht : P.underlying t = some (.slice e)) (hi : P.info? e = some i) (hz : i.zero = some z)
  (hsize : i.size = size) (hby : i.bytes = bytes) (hzs : z.cells.size = size) (hsz : 0 < size)
  (v : Value) (n : Nat) (xs : List Value) (hs : a.eval s = v) (hown : Own w base size v n xs) (h1x : ∀ u ∈ xs, u.oneCell' = true)
  (m : Nat) (news : List Value) (hr : Src P size tx (a.eval x) m news w) (k : Nat) (hk : n + m = k) (ys : List Value) (hy : xs ++ news = ys)
  (h63 : n + m ≤ maxLen) (hbytes : (n + m) * bytes ≤ 140737488355328) (hbase : base ≤ w.heap.size)
  (h : ∀ A' c' w', Own w' base size (.slice A' k c') k ys → w.grownBy w' v.ownBlock → ((Value.slice A' k c').ownBlock = v.ownBlock ∨ (Value.slice A' k c').ownBlock = some w.heap.size) → wpList P ops Q rest (a.put o.dst (.slice A' k c')) w') : wpList P ops Q (o :: rest) a w := by
 subst hk; subst hy
 refine wpList_append_Own w hgd s x t tx ho base e i z size bytes ht hi hz hsize hby hzs hsz v n xs hs hown h1x m news hr h63 hbytes hbase fun v' w' h2 h3 h4 => ?_
 obtain ⟨A', c', rfl, _, _⟩ := h2.form
 exact h A' c' w' h2 h3 h4
/-! ### A block that is known whole -/
def Blk (w : World) (g : Nat) (t : TypeId) (cs : Array Value) : Prop := w.heap[g]? = some (.cells cs t (0, 0))
section
variable {w w' : World} {g : Nat} {t : TypeId} {cs : Array Value}
theorem Blk.lt (h : Blk w g t cs) : g < w.heap.size := (Array.getElem?_eq_some_iff.1 h).1
theorem Blk.cell (h : Blk w g t cs) (i : Nat) : w.cell? ⟨g, i, none⟩ = cs[i]? := cell_of_row w g i cs t (0, 0) h
theorem Blk.free (h : Blk w g t cs) (i : Nat) : w.frozen? ⟨g, i, none⟩ = false := by
 unfold Blk at h
 simp only [World.frozen?]
 rw [h]
 simp
theorem Blk.new (w : World) (t : TypeId) (cs : Array Value) {g : Nat} (hg : g = w.heap.size) : Blk (w.alloc (.cells cs t)) g t cs := by
 subst hg
 exact heap_alloc_new w _
theorem Blk.keep (h : Blk w g t cs) (e : w'.heap[g]? = w.heap[g]?) : Blk w' g t cs := e.trans h
theorem Blk.drew (h : Blk w g t cs) : Blk w.drew g t cs := h
theorem Blk.drewN (h : Blk w g t cs) (n : Nat) : Blk (w.drewN n) g t cs := h
theorem Blk.alloc (h : Blk w g t cs) (o : Obj) : Blk (w.alloc o) g t cs := h.keep (heap_alloc_old w o g h.lt)
theorem Blk.set_ (h : Blk w g t cs) (i : Nat) (u : Value) : Blk (w.setCell ⟨g, i, none⟩ u) g t (cs.setIfInBounds i u) := by
 unfold Blk at h ⊢
 simp [World.setCell, Array.getElem?_modify, h]
theorem Blk.far (h : Blk w g t cs) {p : Addr} (hp : g ≠ p.block) (u : Value) : Blk (w.setCell p u) g t cs := h.keep (Below.heap_setCell w p u g hp)
theorem Blk.below {B : Nat} (h : Blk w g t cs) (hb : Below B w w') (hg : g < B) : Blk w' g t cs := h.keep (hb.block g hg)
theorem Blk.grown {row : Option Nat} (h : Blk w g t cs) (hb : w.grownBy w' row) (hg : some g ≠ row) : Blk w' g t cs := h.keep (hb.block g h.lt hg)
end
theorem Below.here (w : World) : Below w.heap.size w w.drew := (Below.refl _ _).drew
theorem Below.fromDrew {w w' : World} (h : Below w.drew.heap.size w.drew w') : Below w.heap.size w w' := (Below.here w).trans h
end Go.Proofs.YtkegkelaffohjaaGreatDoor
namespace Go.Proofs.YtkegkelaffohjaaGreatDoor
open Go Go.RowKit
theorem made_at (z : Array Value) (n t : Nat) (ht : t < n) : (madeCells z n).toList[t]? = some (z[t % z.size]!) := by
 simp [madeCells, ht]
theorem made_same (z : Array Value) (u : Value) (hz : 0 < z.size) (hu : ∀ j, j < z.size → z[j]! = u) (n : Nat) : (madeCells z n).toList = List.replicate n u := by
 apply List.ext_getElem?
 intro t
 by_cases ht : t < n
 ·rw [made_at z n t ht, hu _ (Nat.mod_lt _ hz)]
  simp [ht]
 ·rw [List.getElem?_eq_none (by simp [madeCells]; omega), List.getElem?_eq_none (by simp; omega)]
end Go.Proofs.YtkegkelaffohjaaGreatDoor
namespace Go.Proofs.YtkegkelaffohjaaGreatDoor
open Go Go.RowKit
theorem heap_setCells (b g : Nat) (hne : g ≠ b) : ∀ (vs : List Value) (o : Nat) (w : World), (w.setCells b o vs).heap[g]? = w.heap[g]?
 | [], _, _ => rfl
 | v :: r, o, w => by rw [World.setCells, heap_setCells b g hne r]; exact Below.heap_setCell w _ v g hne
theorem os_setCells (b : Nat) : ∀ (vs : List Value) (o : Nat) (w : World), (w.setCells b o vs).os = w.os
 | [], _, _ => rfl
 | v :: r, o, w => by rw [World.setCells, os_setCells b r]; rfl
theorem output_setCells (b : Nat) : ∀ (vs : List Value) (o : Nat) (w : World), (w.setCells b o vs).output = w.output
 | [], _, _ => rfl
 | v :: r, o, w => by rw [World.setCells, output_setCells b r]; rfl
theorem Below.setCells_ {B : Nat} {a w : World} (h : Below B a w) {b : Nat} (hb : B ≤ b) (o : Nat) (vs : List Value) : Below B a (w.setCells b o vs) := by
 refine h.trans ⟨os_setCells b vs o w, tape_setCells b vs o w, output_setCells b vs o w, Nat.le_of_eq (size_setCells b vs o w).symm, fun g hg => heap_setCells b g (by omega) vs o w⟩
theorem Blk.setCells_ {w : World} {g : Nat} {t : TypeId} {cs : Array Value} (h : Blk w g t cs) {b : Nat} (hb : g ≠ b) (o : Nat) (vs : List Value) : Blk (w.setCells b o vs) g t cs := h.keep (heap_setCells b g hb vs o w)
theorem Own.addr {w : World} {base size n c : Nat} {A : Option Addr} {xs : List Value} (h : Own w base size (.slice A n c) n xs) (hn : 0 < n) : ∃ g off, A = some ⟨g, off, none⟩ ∧ base ≤ g ∧ g < w.heap.size := by
 rcases h.2 with ⟨_, h0⟩ | ⟨g, off, cap, e, hb, hg, _⟩
 ·omega
 ·injection e with e1 e2 e3
  exact ⟨g, off, e1, hb, hg⟩
theorem Own.there {w : World} {base size n c g off : Nat} {xs : List Value} (h : Own w base size (.slice (some ⟨g, off, none⟩) n c) n xs) (k : Nat) (hk : k < n) : w.there g (off + k * size) size := by
 rcases h.2 with ⟨e, _⟩ | ⟨g', off', cap, e, hb, hg, hn, hm, hx, hf⟩
 ·cases e
 ·injection e with e1 e2 e3
  injection e1 with e1
  injection e1 with e1 e4
  subst e1; subst e4; subst e3
  intro j hj
  rw [Nat.add_assoc]
  refine hf _ ?_
  have : (k + 1) * size ≤ c * size := Nat.mul_le_mul_right _ (by omega)
  rw [Nat.succ_mul] at this
  omega
theorem Own.setOne {w : World} {base size n c g off : Nat} {xs : List Value} (h : Own w base size (.slice (some ⟨g, off, none⟩) n c) n xs) (k : Nat) (hk : k < n) (ys zs : List Value) (hy : ys.length = size)
  (hz : zs.length = n * size) (hin : ∀ j, j < size → zs[k * size + j]? = ys[j]?) (hout : ∀ j, (j < k * size ∨ (k + 1) * size ≤ j) → zs[j]? = xs[j]?) :
  Own (w.setCells g (off + k * size) ys) base size (.slice (some ⟨g, off, none⟩) n c) n zs := by
 have hth := h.there k hk
 refine ⟨hz, ?_⟩
 rcases h.2 with ⟨e, _⟩ | ⟨g', off', cap, e, hb, hg, hn, hm, hx, hf⟩
 ·cases e
 ·injection e with e1 e2 e3
  injection e1 with e1
  injection e1 with e1 e4
  subst e1; subst e4; subst e3
  refine .inr ⟨g, off, c, rfl, hb, by rw [size_setCells]; exact hg, hn, hm, fun j hj => ?_, fun j hj => ⟨World.isSome_setCells _ _ _ _ _ (hf j hj).1, by rw [World.frozen?_setCells]; exact (hf j hj).2⟩⟩
  by_cases hin' : k * size ≤ j ∧ j < (k + 1) * size
  ·obtain ⟨i, rfl⟩ : ∃ i, j = k * size + i := ⟨j - k * size, by omega⟩
   have hi : i < size := by have := hin'.2; rw [Nat.succ_mul] at this; omega
   rw [← Nat.add_assoc, World.cell?_setCells_in g ys (off + k * size) w (fun t ht => (hth t (by omega)).1) i (by omega), hin i hi, List.getElem?_eq_getElem]
  ·rw [World.cell?_setCells_out g ys (off + k * size) w _ (fun _ _ => ?_), hx j hj]
   ·exact (hout j (by omega)).symm
   ·rw [Nat.succ_mul] at hin'
    show off + j < off + k * size ∨ off + k * size + ys.length ≤ off + j
    omega
theorem pxCs_all (p : Px) : (pxCs p).toArray.all (·.oneCell') = true := all_oneCell_toArray (fun v hv => pxCells_one [p] v (by simpa [pxCells] using hv))
theorem wpList_store_px {P : Program} {ops : Array Oper} {rest : List Oper} {op : Oper} {a : Act} {w : World} {Q : Exit → Act → World → Prop} (hgd : op.guard = none) (e : TypeId) (hi : (P.info? e).map (·.size) = some 4) (x y : Operand) (ho : op.op = .store e x y)
  (b o : Nat) (p : Px) (hx : a.eval x = .pointer (some ⟨b, o, none⟩)) (hy : a.eval y = pxV p) (ht : w.there b o 4)
  (h : wpList P ops Q rest (a.put op.dst undef) (w.setCells b o (pxCs p))) : wpList P ops Q (op :: rest) a w :=
 wpList_store_mid hgd e x y ho b o (pxCs p).toArray hx hy ht hi (pxCs_all p) h
theorem pxCells_set_in (l : List Px) (k : Nat) (hk : k < l.length) (p : Px) (j : Nat) (hj : j < 4) : (pxCells (l.set k p))[k * 4 + j]? = (pxCs p)[j]? := by
 rw [pxCells_at _ k (by simpa using hk) j hj]
 simp
theorem pxCells_set_out (l : List Px) (k : Nat) (p : Px) (j : Nat) (hj : j < k * 4 ∨ (k + 1) * 4 ≤ j) : (pxCells (l.set k p))[j]? = (pxCells l)[j]? := by
 by_cases hl : j / 4 < l.length
 ·have e : j = j / 4 * 4 + j % 4 := by omega
  rw [e, pxCells_at _ (j / 4) (by simpa using hl) _ (Nat.mod_lt _ (by omega)), pxCells_at _ (j / 4) hl _ (Nat.mod_lt _ (by omega))]
  rw [List.getElem_set_ne (by omega)]
 ·rw [List.getElem?_eq_none (by rw [pxCells_length, List.length_set]; omega), List.getElem?_eq_none (by rw [pxCells_length]; omega)]
theorem Own.setPx {w : World} {base n c g off : Nat} {l : List Px} (h : Own w base 4 (.slice (some ⟨g, off, none⟩) n c) n (pxCells l)) (k : Nat) (hk : k < n) (p : Px) :
  Own (w.setCells g (off + k * 4) (pxCs p)) base 4 (.slice (some ⟨g, off, none⟩) n c) n (pxCells (l.set k p)) := by
 have hl : n = l.length := by have := h.1; rw [pxCells_length] at this; omega
 exact h.setOne k hk _ _ rfl (by rw [pxCells_length, List.length_set, hl]) (fun j hj => pxCells_set_in l k (by omega) p j hj) (fun j hj => pxCells_set_out l k p j hj)
theorem ne_blk {b g : Nat} (h : b < g) (i o : Nat) : (⟨g, i, none⟩ : Addr) ≠ ⟨b, o, none⟩ := by intro e; injection e with e _ _; omega
theorem Reads.keepAt {w w' : World} {B B' size n : Nat} {A : Option Addr} {xs : List Value} (h : Reads w B size A n xs) (hB : B ≤ B') (hk : ∀ b off, A = some ⟨b, off, none⟩ → b < B → 0 < n * size → w'.heap[b]? = w.heap[b]?) : Reads w' B' size A n xs :=
 ⟨h.1, fun hn => by
  obtain ⟨b, off, e, hb, hc⟩ := h.2 hn
  exact ⟨b, off, e, by omega, fun j u hu => (World.cell?_of_block (a := ⟨b, off + j, none⟩) (hk b off e hb hn)).trans (hc j u hu)⟩⟩
end Go.Proofs.YtkegkelaffohjaaGreatDoor
namespace Go.Proofs.YtkegkelaffohjaaGreatDoor
open Go Go.RowKit
structure Keeps (S : Nat → Prop) (a w : World) : Prop where
 os : w.os = a.os
 tape : w.tape = a.tape
 output : w.output = a.output
 size : a.heap.size ≤ w.heap.size
 block : ∀ g, g < a.heap.size → ¬ S g → w.heap[g]? = a.heap[g]?
section
variable {S T : Nat → Prop} {a w x : World}
theorem Keeps.refl (S : Nat → Prop) (w : World) : Keeps S w w := ⟨rfl, rfl, rfl, Nat.le_refl _, fun _ _ _ => rfl⟩
theorem Keeps.trans (h : Keeps S a w) (k : Keeps T w x) (hT : ∀ g, g < a.heap.size → T g → S g) : Keeps S a x :=
 ⟨k.os.trans h.os, k.tape.trans h.tape, k.output.trans h.output, Nat.le_trans h.size k.size, fun g hg hS =>
  (k.block g (Nat.lt_of_lt_of_le hg h.size) (fun ht => hS (hT g hg ht))).trans (h.block g hg hS)⟩
theorem Keeps.mono (h : Keeps S a w) (hT : ∀ g, g < a.heap.size → S g → T g) : Keeps T a w := ⟨h.os, h.tape, h.output, h.size, fun g hg hn => h.block g hg (fun hs => hn (hT g hg hs))⟩
theorem Keeps.of_below {B : Nat} (h : Below B a w) (hB : ∀ g, g < a.heap.size → ¬ S g → g < B) : Keeps S a w := ⟨h.os, h.tape, h.output, h.size, fun g hg hn => h.block g (hB g hg hn)⟩
theorem Keeps.below {B : Nat} (h : Keeps S a w) (hB : ∀ g, S g → B ≤ g) (hs : B ≤ a.heap.size) : Below B a w := ⟨h.os, h.tape, h.output, h.size, fun g hg => h.block g (by omega) (fun hg' => by have := hB g hg'; omega)⟩
theorem Keeps.drewN (h : Keeps S a w) (n : Nat) : Keeps S a (w.drewN n) := ⟨h.os, h.tape, h.output, h.size, h.block⟩
theorem Keeps.drew (h : Keeps S a w) : Keeps S a w.drew := ⟨h.os, h.tape, h.output, h.size, h.block⟩
theorem Keeps.alloc (h : Keeps S a w) (o : Obj) : Keeps S a (w.alloc o) :=
 ⟨h.os, h.tape, h.output, by have := h.size; simp; omega, fun g hg hn => (heap_alloc_old w o g (Nat.lt_of_lt_of_le hg h.size)).trans (h.block g hg hn)⟩
theorem Keeps.setCell (h : Keeps S a w) {p : Addr} (hp : p.block < a.heap.size → S p.block) (u : Value) : Keeps S a (w.setCell p u) :=
 ⟨h.os, h.tape, h.output, by have := h.size; simp [World.setCell]; omega, fun g hg hn => (Below.heap_setCell w p u g (fun e => hn (by rw [e]; exact hp (by omega)))).trans (h.block g hg hn)⟩
theorem Keeps.grown {row : Option Nat} (h : Keeps S a w) (hg : w.grownBy x row) (hr : ∀ g, row = some g → g < a.heap.size → S g) : Keeps S a x :=
 ⟨hg.os.trans h.os, hg.tape.trans h.tape, hg.output.trans h.output, Nat.le_trans h.size hg.size, fun g hg' hn =>
  (hg.block g (Nat.lt_of_lt_of_le hg' h.size) (fun e => hn (hr g e.symm hg'))).trans (h.block g hg' hn)⟩
theorem Own.keeps {base size n : Nat} {v : Value} {xs : List Value} (h : Own a base size v n xs) (k : Keeps S a w) (hn : ∀ g, v.ownBlock = some g → ¬ S g) : Own w base size v n xs :=
 h.keep k.size fun g hv => k.block g (h.lt g hv).2 (hn g hv)
theorem Blk.keeps {g : Nat} {t : TypeId} {cs : Array Value} (h : Blk a g t cs) (k : Keeps S a w) (hn : ¬ S g) : Blk w g t cs := h.keep (k.block g h.lt hn)
theorem Reads.keeps {B size n : Nat} {A : Option Addr} {xs : List Value} (h : Reads a B size A n xs) (k : Keeps S a w) (hB : B ≤ a.heap.size) (hn : ∀ g, g < B → ¬ S g) : Reads w B size A n xs :=
 h.keep fun _ hp => World.cell?_of_block (k.block _ (by omega) (hn _ hp))
def Fresh (w : World) (v v' : Value) : Prop := ∀ g, v'.ownBlock = some g → v.ownBlock = some g ∨ w.heap.size ≤ g
theorem Fresh.refl (w : World) (v : Value) : Fresh w v v := fun _ h => .inl h
theorem Src.blk {P : Program} {tx e' : TypeId} (hk : P.underlying tx = some (.slice e')) {W : World} {g : Nat} {t : TypeId} {cs : List Value} (hB : Blk W g t cs.toArray) {size m c : Nat} (hl : cs.length = m * size) (h1 : ∀ u ∈ cs, u.oneCell' = true) :
  Src P size tx (.slice (some ⟨g, 0, none⟩) m c) m cs W :=
 Src.ofSlice W hk ⟨g, 0, none⟩ m c cs hl (fun j u hu => by
  rw [add_lit, Nat.zero_add, hB.cell]
  simpa using hu) h1
end
end Go.Proofs.YtkegkelaffohjaaGreatDoor
namespace Go.Proofs.YtkegkelaffohjaaGreatDoor
open Go Go.RowKit
/- Steps through a region, shortly. -/
theorem nz1 {α : Type} {xs : List α} {i : Nat} (h : i < xs.toArray.size) : xs.toArray[i] = xs[i]'(by simpa using h) := rfl
theorem nz2 {α : Type} {a : α} {as : List α} (h : 0 < (a :: as).length) : (a :: as)[0] = a := rfl
theorem nz3 {α : Type} {a : α} {as : List α} {i : Nat} (h : i + 1 < (a :: as).length) : (a :: as)[i + 1] = as[i]'(Nat.lt_of_succ_lt_succ h) := rfl
theorem nz4 {α : Type} (l : List α) (i : Nat) (a : α) : l.toArray.setIfInBounds i a = (l.set i a).toArray := List.setIfInBounds_toArray l i a
theorem nz5 {α : Type} {x : α} {xs : List α} {a : α} : (x :: xs).set 0 a = a :: xs := rfl
theorem nz6 {α : Type} {x : α} {xs : List α} {n : Nat} {a : α} : (x :: xs).set (n + 1) a = x :: xs.set n a := rfl
section
variable {P : Program} {ops : Array Oper} {Q : Exit → Act → World → Prop} {md : Region.Mode} {S : World → Prop}
theorem opT (i : Nat) {oi : Oper} {v : Value} {fuel : Nat} {listed : Array Bool} {a a' : Act} {w : World} (hi : ops[i]? = some oi) (h : wpAnyH P md ops Q S fuel (listed.setIfInBounds i true) a' w)
  (hs : Region.noSelect ops = true := by kernel_rfl) (hf : Region.free md ops listed i = true := by kernel_rfl) (hr : (Region.ready md ops listed).contains i = true := by kernel_rfl)
  (hw : Region.wanted oi (yielded ops a.tmps) = true := by rfl) (hy : ∀ w, S w → (execOp a.eval oi).run P w = .ok (.value v) w := by intro w hSw; (try dsimp only at hSw); go_simp <;> with_reducible rfl)
  (ha : a.put oi.dst v = a' := by (try simp only [Act.put, nz1, nz2, nz3, nz4, nz5, nz6]); exact rfl)
  (hQ : ∀ c a w, Q (.panic c) (a.put oi.dst v) w → Q (.panic c) a w := by exact fun _ _ _ h => h) (hS : S w := by assumption) : wpAnyH P md ops Q S (fuel + 1) listed a w := by
 subst ha
 exact wpAnyH_take hi hs hf hr hQ (.inl ⟨hw, hy⟩) hS h
theorem opV (i : Nat) {oi : Oper} (v : Value) {fuel : Nat} {listed : Array Bool} {a : Act} {w : World} (hi : ops[i]? = some oi) (hy : ∀ w, S w → (execOp a.eval oi).run P w = .ok (.value v) w) (h : wpAnyH P md ops Q S fuel (listed.setIfInBounds i true) (a.put oi.dst v) w)
  (hs : Region.noSelect ops = true := by kernel_rfl) (hf : Region.free md ops listed i = true := by kernel_rfl) (hr : (Region.ready md ops listed).contains i = true := by kernel_rfl)
  (hw : Region.wanted oi (yielded ops a.tmps) = true := by rfl)
  (hQ : ∀ c a w, Q (.panic c) (a.put oi.dst v) w → Q (.panic c) a w := by exact fun _ _ _ h => h) (hS : S w := by assumption) : wpAnyH P md ops Q S (fuel + 1) listed a w :=
 wpAnyH_take hi hs hf hr hQ (.inl ⟨hw, hy⟩) hS h
theorem opU (i : Nat) {oi : Oper} {fuel : Nat} {listed : Array Bool} {a a' : Act} {w : World} (hi : ops[i]? = some oi) (h : wpAnyH P md ops Q S fuel (listed.setIfInBounds i true) a' w)
  (hs : Region.noSelect ops = true := by kernel_rfl) (hf : Region.free md ops listed i = true := by kernel_rfl) (hr : (Region.ready md ops listed).contains i = true := by kernel_rfl)
  (hw : Region.wanted oi (yielded ops a.tmps) = false := by rfl)
  (ha : a.put oi.dst undef = a' := by (try simp only [Act.put, nz1, nz2, nz3, nz4, nz5, nz6]); exact rfl)
  (hQ : ∀ c a w, Q (.panic c) (a.put oi.dst undef) w → Q (.panic c) a w := by exact fun _ _ _ h => h) (hS : S w := by assumption) : wpAnyH P md ops Q S (fuel + 1) listed a w := by
 subst ha
 exact wpAnyH_take hi hs hf hr hQ (.inr ⟨hw, rfl⟩) hS h
theorem opD (i : Nat) {o : Oper} {fuel : Nat} {listed : Array Bool} {a : Act} {w : World} (ho : ops[i]? = some o)
  (h : ∀ K' : Act → World → Prop, Shut (∀ a w, S w → (S w → wpAnyH P md ops Q S fuel (listed.setIfInBounds i true) a w) → K' a w) → if Region.wanted o (yielded ops a.tmps) = true then Oper.wp P o a w K' Q else K' (a.put o.dst undef) w)
  (hr : Region.ready md ops listed = [i] := by kernel_rfl) : wpAnyH P md ops Q S (fuel + 1) listed a w := wpAnyH_ready hr (by simp) (AllReadyH.cons ho h AllReadyH.nil)
end
end Go.Proofs.YtkegkelaffohjaaGreatDoor
/- Pixels over pixels: plain. Layers, one upon the other: plain. A document of layers: names, what is right, the first fault: plain. Pictures place by place; a picture stamped upon another one; layers stamped one by one: plain. -/
namespace Go.Proofs.YtkegkelaffohjaaGreatDoor
namespace Lay
structure Layer where
 name : ByteArray
 x : Int
 y : Int
 hidden : Bool
 opacity : Int
 mode : Int
 wide : Int
 high : Int
 ps : List Px
instance : Inhabited Layer := ⟨⟨default, 0, 0, false, 0, 0, 0, 0, []⟩⟩
end Lay
end Go.Proofs.YtkegkelaffohjaaGreatDoor
namespace Go.Proofs.YtkegkelaffohjaaGreatDoor
namespace Lay
def sideP (n : Int) : Bool := decide (1 ≤ n) && decide (n ≤ 256)
def nearP (n : Int) : Bool := decide (-10000 ≤ n) && decide (n ≤ 10000)
def modeP (m : Int) : Bool := decide (0 ≤ m) && decide (m < 6)
def opacP (n : Int) : Bool := decide (0 ≤ n) && decide (n ≤ 255)
def lowB (c : UInt8) : Bool := decide (97 ≤ (c.toNat : Int)) && decide ((c.toNat : Int) ≤ 122)
def isName (s : ByteArray) : Bool := decide (1 ≤ s.size) && decide (s.size ≤ 12) && s.data.toList.all lowB
def find : List Layer → ByteArray → Int
 | [], _ => -1
 | l :: r, s => if l.name = s then 0 else if find r s < 0 then -1 else find r s + 1
def rightL (l : Layer) : Bool := sideP l.wide && sideP l.high && decide ((l.ps.length : Int) = l.wide * l.high)
def faultAt (ls : List Layer) (i : Nat) (l : Layer) : Nat :=
 if !isName l.name || decide (find ls l.name < i) then 5
 else if !nearP l.x || !nearP l.y || !opacP l.opacity || !modeP l.mode then 2
 else if !rightL l then 3 else 0
structure Good (W H : Int) (ls : List Layer) : Prop where
 wd : sideP W = true
 hg : sideP H = true
 n : ls.length ≤ 8
 at_ : ∀ j, (hj : j < ls.length) → faultAt ls j ls[j] = 0
end Lay
end Go.Proofs.YtkegkelaffohjaaGreatDoor
